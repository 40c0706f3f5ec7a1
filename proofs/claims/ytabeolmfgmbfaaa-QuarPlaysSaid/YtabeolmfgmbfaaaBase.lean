/- Words and lemmas of my own that all walks of this seat share: what a call may have written (Chg), blocks that are known whole (Blk), slices whose array is owned (Own). They hold of every program and world; no condition beyond those that each lemma names. -/
import Derived.Test.YtabeolmfgmbfaaaChecked
import Derived.WalkKit
import Derived.WalkSpells
import Derived.WalkLawsBesides
import Derived.Deep.QuietTactic
import Derived.BigQuiet
import Derived.Lib.Hide
import Derived.Laws.StructEq
import Derived.Deep.RegionWith
import Derived.Deep.DeepCutAuto
import Derived.OpenShut
import Derived.SizedLaws
import Derived.ChangeSlices
import Derived.WideShapes
namespace Go.Proofs.Ytabeolmfgmbfaaa
open Go.RowKit
set_option linter.unusedVariables false
set_option linter.unusedSimpArgs false

/-! ### 1. What a call may have written -/

/-- From w to w' only blocks of F, and new ones, have turned; no block has gone. -/
structure Chg (F : Nat → Prop) (w w' : World) : Prop where
  os : w'.os = w.os
  tape : w'.tape = w.tape
  output : w'.output = w.output
  size : w.heap.size ≤ w'.heap.size
  block : ∀ k, k < w.heap.size → ¬ F k → w'.heap[k]? = w.heap[k]?

/-- No block. -/
def Non : Nat → Prop := fun _ => False
/-- One block. -/
def One (b : Nat) : Nat → Prop := fun k => k = b
/-- The block of an owned slice, if there is one. -/
def Opt (g : Option Nat) : Nat → Prop := fun k => g = some k
/-- Two footprints. -/
def Two (F G : Nat → Prop) : Nat → Prop := fun k => F k ∨ G k

theorem Chg.refl (F : Nat → Prop) (w : World) : Chg F w w := ⟨rfl, rfl, rfl, Nat.le_refl _, fun _ _ _ => rfl⟩
theorem Chg.trans {F G H : Nat → Prop} {a b c : World} (h : Chg F a b) (k : Chg G b c) (hF : ∀ i, i < a.heap.size → F i → H i) (hG : ∀ i, i < a.heap.size → G i → H i) : Chg H a c :=
  ⟨k.os.trans h.os, k.tape.trans h.tape, k.output.trans h.output, Nat.le_trans h.size k.size,
    fun i hi hn => (k.block i (Nat.lt_of_lt_of_le hi h.size) (fun e => hn (hG i hi e))).trans (h.block i hi (fun e => hn (hF i hi e)))⟩
theorem Chg.mono {F G : Nat → Prop} {a b : World} (h : Chg F a b) (hF : ∀ i, i < a.heap.size → F i → G i) : Chg G a b :=
  ⟨h.os, h.tape, h.output, h.size, fun i hi hn => h.block i hi (fun e => hn (hF i hi e))⟩
theorem Chg.tr {F : Nat → Prop} {a b c : World} (h : Chg F a b) (k : Chg F b c) : Chg F a c := h.trans k (fun _ _ x => x) (fun _ _ x => x)
theorem Chg.of_below {F : Nat → Prop} {a b : World} (h : Below a.heap.size a b) : Chg F a b := ⟨h.os, h.tape, h.output, h.size, fun i hi _ => h.block i hi⟩
theorem Chg.below {a b : World} (h : Chg Non a b) : Below a.heap.size a b := ⟨h.os, h.tape, h.output, h.size, fun i hi => h.block i hi (fun e => e)⟩
/-- What has turned lies at base or behind it. -/
theorem Chg.belowAt {F : Nat → Prop} {B : Nat} {a b : World} (h : Chg F a b) (hB : B ≤ a.heap.size) (hF : ∀ i, F i → B ≤ i) : Below B a b :=
  ⟨h.os, h.tape, h.output, h.size, fun i hi => h.block i (Nat.lt_of_lt_of_le hi hB) (fun e => by have := hF i e; omega)⟩
theorem Chg.drew {F : Nat → Prop} {a b : World} (h : Chg F a b) : Chg F a b.drew := ⟨h.os, h.tape, h.output, h.size, h.block⟩
theorem Chg.drewN {F : Nat → Prop} {a b : World} (h : Chg F a b) (n : Nat) : Chg F a (b.drewN n) := ⟨h.os, h.tape, h.output, h.size, h.block⟩
theorem Chg.of_drew {F : Nat → Prop} {a b : World} (h : Chg F a.drew b) : Chg F a b := ⟨h.os, h.tape, h.output, h.size, h.block⟩
theorem Chg.of_drewN {F : Nat → Prop} {a b : World} {n : Nat} (h : Chg F (a.drewN n) b) : Chg F a b := ⟨h.os, h.tape, h.output, h.size, h.block⟩
theorem Chg.alloc {F : Nat → Prop} {a b : World} (h : Chg F a b) (o : Obj) : Chg F a (b.alloc o) :=
  h.tr ⟨rfl, rfl, rfl, by simp, fun k hk _ => Below.heap_alloc _ _ _ hk⟩
theorem Chg.setCell {F : Nat → Prop} {a b : World} (h : Chg F a b) {p : Addr} (hp : F p.block ∨ a.heap.size ≤ p.block) (u : Value) : Chg F a (b.setCell p u) :=
  ⟨h.os, h.tape, h.output, by simpa using h.size, fun k hk hn => (Below.heap_setCell _ _ _ _ (fun e => by rcases hp with hp | hp; exact hn (e ▸ hp); omega)).trans (h.block k hk hn)⟩
theorem Chg.grown {F : Nat → Prop} {a b c : World} {row : Option Nat} (h : Chg F a b) (hg : b.grownBy c row) (hr : ∀ k, row = some k → F k ∨ a.heap.size ≤ k) : Chg F a c :=
  ⟨hg.os.trans h.os, hg.tape.trans h.tape, hg.output.trans h.output, Nat.le_trans h.size hg.size,
    fun k hk hn => (hg.block k (Nat.lt_of_lt_of_le hk h.size) (fun e => by rcases hr k e.symm with r | r; exact hn r; omega)).trans (h.block k hk hn)⟩

theorem Chg.set1 (w : World) (b o : Nat) (v : Value) : Chg (One b) w (w.setCell ⟨b, o, none⟩ v) := (Chg.refl (One b) w).setCell (p := ⟨b, o, none⟩) (.inl rfl) v

/-! ### 2. Blocks that are known whole -/

/-- Block b holds just these cells, of this type; none is frozen. -/
def Blk (w : World) (b : Nat) (c : Array Value) (t : TypeId) : Prop := w.heap[b]? = some (.cells c t (0, 0))

theorem Blk.lt {w : World} {b : Nat} {c : Array Value} {t : TypeId} (h : Blk w b c t) : b < w.heap.size := (Array.getElem?_eq_some_iff.1 h).1
theorem Blk.cell {w : World} {b : Nat} {c : Array Value} {t : TypeId} (h : Blk w b c t) (o : Nat) : w.cell? ⟨b, o, none⟩ = c[o]? := cell_of_row w b o c t (0, 0) h
theorem Blk.free {w : World} {b : Nat} {c : Array Value} {t : TypeId} (h : Blk w b c t) (o : Nat) : w.frozen? ⟨b, o, none⟩ = false := by
  unfold Blk at h
  simp [World.frozen?, h]
theorem Blk.chg {F : Nat → Prop} {w w' : World} {b : Nat} {c : Array Value} {t : TypeId} (h : Blk w b c t) (k : Chg F w w') (hF : ¬ F b) : Blk w' b c t := (k.block b h.lt hF).trans h
theorem Blk.below {B : Nat} {w w' : World} {b : Nat} {c : Array Value} {t : TypeId} (h : Blk w b c t) (k : Below B w w') (hF : b < B) : Blk w' b c t := (k.block b hF).trans h
theorem Blk.drew {w : World} {b : Nat} {c : Array Value} {t : TypeId} (h : Blk w b c t) : Blk w.drew b c t := h
theorem Blk.drewN {w : World} {b : Nat} {c : Array Value} {t : TypeId} (h : Blk w b c t) (n : Nat) : Blk (w.drewN n) b c t := h
theorem Blk.alloc {w : World} {b : Nat} {c : Array Value} {t : TypeId} (h : Blk w b c t) (o : Obj) : Blk (w.alloc o) b c t := (Below.heap_alloc _ _ _ h.lt).trans h
theorem Blk.new (w : World) (c : Array Value) (t : TypeId) : Blk (w.alloc (.cells c t)) w.heap.size c t := heap_alloc_new w _
theorem Blk.set {w : World} {b : Nat} {c : Array Value} {t : TypeId} (h : Blk w b c t) (o : Nat) (v : Value) : Blk (w.setCell ⟨b, o, none⟩ v) b (c.setIfInBounds o v) t := by
  unfold Blk at *
  simp only [World.setCell, Array.getElem?_modify, if_true, h]
  rfl
theorem Blk.setOther {w : World} {b : Nat} {c : Array Value} {t : TypeId} (h : Blk w b c t) {p : Addr} (hp : b ≠ p.block) (v : Value) : Blk (w.setCell p v) b c t :=
  (Below.heap_setCell _ _ _ _ hp).trans h

/-! ### 3. Slices whose array is owned -/

/-- A slice of n elements of 'size' cells each, that hold xs, and whose array is block g (none: it has no array). -/
def Own (w : World) (e : TypeId) (size : Nat) (v : Value) (n : Nat) (xs : List Value) (g : Option Nat) : Prop :=
  xs.length = n * size ∧ ((v = .slice none 0 0 ∧ n = 0 ∧ g = none) ∨
    ∃ b off cap cur, v = .slice (some ⟨b, off, none⟩) n cap ∧ g = some b ∧ Blk w b cur e ∧ n ≤ cap ∧ cap ≤ maxLen ∧ off + cap * size ≤ cur.size ∧ (cur.toList.drop off).take (n * size) = xs)

theorem Own.nil (w : World) (e : TypeId) (size : Nat) : Own w e size (.slice none 0 0) 0 [] none := ⟨by simp, .inl ⟨rfl, rfl, rfl⟩⟩
theorem Own.lt {w : World} {e : TypeId} {size : Nat} {v : Value} {n : Nat} {xs : List Value} {g : Option Nat} (h : Own w e size v n xs g) : ∀ k, g = some k → k < w.heap.size := by
  intro k hk
  rcases h.2 with ⟨_, _, rfl⟩ | ⟨b, off, cap, cur, _, rfl, hb, _⟩
  · cases hk
  · cases hk; exact hb.lt
theorem Own.chg {F : Nat → Prop} {w w' : World} {e : TypeId} {size : Nat} {v : Value} {n : Nat} {xs : List Value} {g : Option Nat} (h : Own w e size v n xs g) (k : Chg F w w') (hF : ∀ b, g = some b → ¬ F b) : Own w' e size v n xs g := by
  refine ⟨h.1, ?_⟩
  rcases h.2 with h | ⟨b, off, cap, cur, h1, h2, h3, h4⟩
  · exact .inl h
  · exact .inr ⟨b, off, cap, cur, h1, h2, h3.chg k (hF b h2), h4⟩
theorem Own.slice {w : World} {e : TypeId} {size : Nat} {v : Value} {n : Nat} {xs : List Value} {g : Option Nat} (h : Own w e size v n xs g) : ∃ a cap, v = .slice a n cap ∧ n ≤ cap ∧ cap ≤ maxLen := by
  rcases h.2 with ⟨rfl, rfl, _⟩ | ⟨b, off, cap, cur, rfl, _, _, h4, h5, _⟩
  · exact ⟨none, 0, rfl, Nat.le_refl _, by simp [maxLen]⟩
  · exact ⟨_, cap, rfl, h4, h5⟩
theorem Own.at {w : World} {e : TypeId} {size : Nat} {a : Option Addr} {n cap : Nat} {xs : List Value} {g : Option Nat} (h : Own w e size (.slice a n cap) n xs g) {j : Nat} (hj : j < n * size) :
    ∃ b off, a = some ⟨b, off, none⟩ ∧ g = some b ∧ w.cell? ⟨b, off + j, none⟩ = xs[j]? ∧ w.frozen? ⟨b, off + j, none⟩ = false := by
  rcases h.2 with ⟨_, rfl, _⟩ | ⟨b, off, cap, cur, hv, hg, hb, h4, h5, h6, h7⟩
  · simp at hj
  · cases hv
    refine ⟨b, off, rfl, hg, ?_, hb.free _⟩
    rw [hb.cell, ← h7]
    simp [hj, Nat.add_comm]
theorem Own.of_row {w : World} {base : Nat} {e : TypeId} {size : Nat} {v : Value} {n : Nat} {xs : List Value} (h : w.ownsRow base e size v n xs) : Own w e size v n xs v.ownBlock := by
  refine ⟨h.1, ?_⟩
  rcases h.2 with ⟨rfl, rfl⟩ | ⟨g, cap, cur, rfl, hb, hg, h4, h5, h6, h7⟩
  · exact .inl ⟨rfl, rfl, rfl⟩
  · exact .inr ⟨g, 0, cap, cur, rfl, rfl, hg, h4, h5, by omega, by simpa using h7⟩

/-- What is appended: n elements read from an address, or none from nowhere. -/
def Src (w : World) (size : Nat) (v : Value) (m : Nat) (news : List Value) : Prop :=
  news.length = m * size ∧ (∀ u ∈ news, u.oneCell' = true) ∧ ((∃ c, v = .slice none m c ∧ m = 0) ∨ ∃ a c, v = .slice (some a) m c ∧ ∀ j u, news[j]? = some u → w.cell? (a.add j) = some u)

theorem Src.slice {w : World} {size : Nat} {v : Value} {m : Nat} {news : List Value} (h : Src w size v m news) : ∃ a c, v = .slice a m c := by
  rcases h.2.2 with ⟨c, rfl, rfl⟩ | ⟨a, c, rfl, _⟩
  · exact ⟨_, _, rfl⟩
  · exact ⟨_, _, rfl⟩

section
variable {P : Program} (w : World)

theorem run_append_room_at (t ty e : TypeId) (i : TypeInfo) (ht : P.underlying t = some (.slice e)) (hi : P.info? e = some i)
    (g off sLen sCap : Nat) (cur : Array Value) (hg : Blk w g cur e)
    (a : Addr) (m c : Nat) (news : List Value) (hl : news.length = m * i.size) (hnews : ∀ j u, news[j]? = some u → w.cell? (a.add j) = some u) (h1 : ∀ u ∈ news, u.oneCell' = true)
    (hroom : sLen + m ≤ sCap) (hfit : off + sLen * i.size + news.length ≤ cur.size) :
    (Builtin.append_ #[t, t] ty #[.slice (some ⟨g, off, none⟩) sLen sCap, .slice (some a) m c]).run P w =
      .ok (.slice (some ⟨g, off, none⟩) (sLen + m) sCap) (w.setRow g (cur.toList.take (off + sLen * i.size) ++ news ++ cur.toList.drop (off + sLen * i.size + news.length)).toArray) := by
  have hf := run_firstCells_some (P := P) w i.size m a m c news hl hnews
  have hst := run_storeCells_at P g (off + sLen * i.size) e news 0 cur w hg (by simpa using hfit) h1
  simp only [Nat.add_zero] at hst
  simp [Builtin.append_, run_underlying ht, sizeOf, typeInfo, hi, Builtin.lenOf, hroom, hf, Addr.add_lit, hst]

theorem run_append_none (t ty e : TypeId) (i : TypeInfo) (ht : P.underlying t = some (.slice e)) (hi : P.info? e = some i)
    (base : Option Addr) (sLen sCap c : Nat) (hc : sLen ≤ sCap) :
    (Builtin.append_ #[t, t] ty #[.slice base sLen sCap, .slice none 0 c]).run P w = .ok (.slice base sLen sCap) w := by
  cases base <;> simp [Builtin.append_, run_underlying ht, sizeOf, typeInfo, hi, Builtin.lenOf, hc, Builtin.firstCells, storeCells]

/-- append onto an owned slice: the result is owned; its array is the old one, or new. -/
theorem run_append_Own (t ty e : TypeId) (i : TypeInfo) (z : Value) (size bytes : Nat) (ht : P.underlying t = some (.slice e)) (hi : P.info? e = some i) (hz : i.zero = some z)
    (hsize : i.size = size) (hby : i.bytes = bytes) (hzs : z.cells.size = size) (hsz : 0 < size)
    (v : Value) (n : Nat) (xs : List Value) (g : Option Nat) (hown : Own w e size v n xs g)
    (x : Value) (m : Nat) (news : List Value) (hx : Src w size x m news)
    (h63 : n + m ≤ maxLen) (hbytes : (n + m) * bytes ≤ 140737488355328) :
    ∃ v' w' g', (Builtin.append_ #[t, t] ty #[v, x]).run P w = .ok v' w' ∧ Own w' e size v' (n + m) (xs ++ news) g' ∧ Chg (Opt g) w w' ∧ (∀ k, g' = some k → g = some k ∨ w.heap.size ≤ k) := by
  subst hsize
  subst hby
  obtain ⟨hl, h1, hx⟩ := hx
  have hlen : (xs ++ news).length = (n + m) * i.size := by rw [List.length_append, hown.1, hl, Nat.add_mul]
  rcases hx with ⟨c, rfl, rfl⟩ | ⟨a, c, rfl, hnews⟩
  · have hn : news = [] := List.eq_nil_of_length_eq_zero (by simpa using hl)
    subst hn
    obtain ⟨a, cap, rfl, hc, _⟩ := hown.slice
    exact ⟨_, _, g, run_append_none w t ty e i ht hi a n cap c hc, by simpa using hown, Chg.refl _ _, fun k hk => .inl hk⟩
  · rcases hown.2 with ⟨rfl, rfl, rfl⟩ | ⟨b, off, cap, cur, rfl, rfl, hb, hnc, hcm, hcs, htake⟩
    · have hxs : xs = [] := List.eq_nil_of_length_eq_zero (by simpa using hown.1)
      subst hxs
      obtain ⟨v', w', hr, ho, hg, _⟩ := run_append_own (P := P) w w.heap.size t ty e i z i.size i.bytes ht hi hz rfl rfl hzs hsz (.slice none 0 0) 0 [] (World.ownsRow_nil w _ e i.size) a m c news hl hnews h1 h63 hbytes (Nat.le_refl _)
      refine ⟨v', w', v'.ownBlock, hr, Own.of_row ho, (Chg.refl _ w).grown hg (fun k hk => by simp [Value.ownBlock] at hk), fun k hk => .inr (ho.lt k hk).1⟩
    · by_cases hroom : n + m ≤ cap
      · have hfit : off + n * i.size + news.length ≤ cur.size := by
          have := Nat.mul_le_mul_right i.size hroom
          rw [Nat.add_mul] at this
          omega
        have hr := run_append_room_at (P := P) w t ty e i ht hi b off n cap cur hb a m c news hl hnews h1 hroom hfit
        have hoff : off + n * i.size ≤ cur.size := by omega
        refine ⟨_, _, some b, hr, ⟨hlen, .inr ⟨b, off, cap, _, rfl, rfl, setRow_heap w b cur _ e _ hb, hroom, hcm, ?_, ?_⟩⟩, ⟨rfl, rfl, rfl, by simp, fun k _ hk => setRow_other w b k _ (fun e => hk (by simp [Opt, e]))⟩, fun k hk => .inl hk⟩
        · simp only [List.size_toArray, List.length_append, List.length_take, List.length_drop, Array.length_toList]
          omega
        · have e1 : (cur.toList.take (off + n * i.size)).drop off = xs := by
            rw [← htake, List.drop_take]; congr 1; omega
          simp only []
          rw [List.append_assoc, List.drop_append_of_le_length (by simp; omega), e1, ← List.append_assoc, ← hlen]
          exact List.take_left
      · have holds : ∀ j u, xs[j]? = some u → w.cell? ((⟨b, off, none⟩ : Addr).add j) = some u := by
          intro j u hu
          rw [Addr.add_lit, hb.cell]
          rw [← htake, List.getElem?_take] at hu
          split at hu
          · simpa [Nat.add_comm] using hu
          · cases hu
        obtain ⟨v', w', hr, ho, hg⟩ := run_append_arg_grows (P := P) w t ty e i z i.size i.bytes ht hi hz rfl rfl hzs hsz ⟨b, off, none⟩ n cap xs hown.1 holds a m c news hl hnews (by omega) h63 hbytes
        exact ⟨v', w', v'.ownBlock, hr, Own.of_row ho, (Chg.refl _ w).grown hg (fun k hk => by cases hk), fun k hk => .inr (ho.lt k hk).1⟩
end

/-- The walk's arm at an append onto an owned slice. -/
theorem wpList_append_Own {P : Program} (w : World) {ops : Array Oper} {rest : List Oper} {o : Oper} {a : Act} {Q : Exit → Act → World → Prop}
    (hg : o.guard = none) (s x : Operand) (t : TypeId) (hop : o.op = Op.call { callee := Callee.builtin Builtin.append, args := #[s, x], argTypes := #[t, t] })
    (e : TypeId) (i : TypeInfo) (z : Value) (size bytes : Nat) (h1 : P.underlying t = some (.slice e)) (h2 : P.info? e = some i) (h3 : i.zero = some z) (h4 : i.size = size) (h5 : i.bytes = bytes) (h6 : z.cells.size = size) (h7 : 0 < size)
    (v : Value) (n : Nat) (xs : List Value) (g : Option Nat) (hs : a.eval s = v) (hown : Own w e size v n xs g)
    (y : Value) (m : Nat) (news : List Value) (hx : a.eval x = y) (hsrc : Src w size y m news)
    (b1 : n + m ≤ maxLen) (b2 : (n + m) * bytes ≤ 140737488355328)
    (hK : ∀ v' w' g', Own w' e size v' (n + m) (xs ++ news) g' → Chg (Opt g) w w' → (∀ k, g' = some k → g = some k ∨ w.heap.size ≤ k) → wpList P ops Q rest (a.put o.dst v') w') :
    wpList P ops Q (o :: rest) a w := by
  refine wpList_plain hg fun K hK' => ?_
  obtain ⟨v', w', g', hrun, r1, r2, r3⟩ := run_append_Own (P := P) w t o.type e i z size bytes h1 h2 h3 h4 h5 h6 h7 v n xs g hown y m news hsrc b1 b2
  unfold Oper.wp
  simp [execOp, hop, resolve, invoke, builtin, hs, hx, hrun, Result.andThen]
  exact hK' _ _ (hK v' w' g' r1 r2 r3)

/-- 's[k:]' of an owned slice: what is behind k is owned, in the same block. -/
theorem Own.drop {w : World} {e : TypeId} {size : Nat} {b off n cap k : Nat} {xs : List Value} {g : Option Nat} (h : Own w e size (.slice (some ⟨b, off, none⟩) n cap) n xs g) (hk : k ≤ n) :
    Own w e size (.slice (some (if cap = k then ⟨b, off, none⟩ else ⟨b, off + k * size, none⟩)) (n - k) (cap - k)) (n - k) (xs.drop (k * size)) g := by
  obtain ⟨hl, h⟩ := h
  rcases h with ⟨hv, _⟩ | ⟨b', off', cap', cur, hv, hg, hb, h4, h5, h6, h7⟩
  · cases hv
  · cases hv
    refine ⟨by simp [hl, Nat.sub_mul], .inr ?_⟩
    by_cases hc : cap = k
    · have hn : n - k = 0 := by omega
      refine ⟨b, off, cap - k, cur, by simp [hc], hg, hb, by omega, by omega, ?_, ?_⟩
      · have : (cap - k) * size ≤ cap * size := Nat.mul_le_mul_right _ (by omega)
        omega
      · rw [hn]
        simp only [Nat.zero_mul, List.take_zero]
        rw [List.drop_eq_nil_of_le]
        rw [hl]
        exact Nat.mul_le_mul_right _ (by omega)
    · refine ⟨b, off + k * size, cap - k, cur, by simp [hc], hg, hb, by omega, by omega, ?_, ?_⟩
      · have : k * size + (cap - k) * size = cap * size := by rw [← Nat.add_mul]; congr 1; omega
        omega
      · rw [← h7, ← List.drop_drop, List.drop_take, Nat.sub_mul]

/-! ### 4. Small laws of numbers -/

theorem ret1_int {k : IntKind} {a b : Int} (h : a = b) : Ending.returned (.int k a) = .returned (.int k b) := by rw [h]
theorem ret2_int {k k' : IntKind} {a a' b b' : Int} (h : a = a') (h' : b = b') : Ending.returned (.tuple #[.int k a, .int k' b]) = .returned (.tuple #[.int k a', .int k' b']) := by rw [h, h']


/-- 'x & (2^i - 1)' of an int is the rest, of numbers below 0, too. -/
theorem and_mask (x : Int) (i : Nat) (hi : i ≤ 62) : bits .and .i64 x (2 ^ i - 1) = x % 2 ^ i := by
  have hpos : 0 < 2 ^ i := Nat.two_pow_pos i
  have hc : ((2 : Int) ^ i - 1) = ((2 ^ i - 1 : Nat) : Int) := by
    rw [Int.natCast_sub hpos]; simp
  have h62 : 2 ^ i ≤ 2 ^ 62 := Nat.pow_le_pow_right (by decide) hi
  have h64 : (2 : Nat) ^ i ∣ 2 ^ 64 := Nat.pow_dvd_pow 2 (by omega)
  have hb : (BitVec.ofInt 64 ((2 ^ i - 1 : Nat) : Int)).toNat = 2 ^ i - 1 := by
    rw [BitVec.ofInt_natCast, BitVec.toNat_ofNat]
    exact Nat.mod_eq_of_lt (by omega)
  have hx : (BitVec.ofInt 64 x).toNat = (x % ((2 ^ 64 : Nat) : Int)).toNat := BitVec.toNat_ofInt ..
  have hxn : ((x % ((2 ^ 64 : Nat) : Int)).toNat : Int) = x % ((2 ^ 64 : Nat) : Int) := Int.toNat_of_nonneg (Int.emod_nonneg _ (Int.natCast_ne_zero.2 (Nat.ne_of_gt (Nat.two_pow_pos 64))))
  have hm : (x % ((2 ^ 64 : Nat) : Int)) % ((2 ^ i : Nat) : Int) = x % 2 ^ i := by
    rw [Int.emod_emod_of_dvd x (Int.natCast_dvd_natCast.2 h64), Int.natCast_pow]
    rfl
  rw [hc]
  show IntKind.i64.wrap (((BitVec.ofInt 64 x &&& BitVec.ofInt 64 ((2 ^ i - 1 : Nat) : Int)).toNat : Nat) : Int) = _
  rw [BitVec.toNat_and, hb, hx, Nat.and_two_pow_sub_one_eq_mod]
  have hcast : (((x % ((2 ^ 64 : Nat) : Int)).toNat % 2 ^ i : Nat) : Int) = x % 2 ^ i := by
    rw [Int.natCast_emod, hxn]
    exact hm
  rw [hcast]
  have h0 : 0 ≤ x % 2 ^ i := Int.emod_nonneg _ (by have : (0 : Int) < 2 ^ i := by exact_mod_cast hpos
                                                   omega)
  have h1 : x % 2 ^ i < 2 ^ i := Int.emod_lt_of_pos _ (by exact_mod_cast hpos)
  have h2 : ((2 ^ i : Nat) : Int) ≤ 4611686018427387904 := Int.ofNat_le.2 (show 2 ^ i ≤ 4611686018427387904 from h62)
  have h3 : ((2 ^ i : Nat) : Int) = (2 : Int) ^ i := by rw [Int.natCast_pow]; rfl
  rw [h3] at h2
  rw [IntKind.wrap_i64]
  omega
theorem and1 (x : Int) : bits .and .i64 x 1 = x % 2 := and_mask x 1 (by decide)
theorem and3 (x : Int) : bits .and .i64 x 3 = x % 4 := and_mask x 2 (by decide)
theorem and7 (x : Int) : bits .and .i64 x 7 = x % 8 := and_mask x 3 (by decide)
theorem and15 (x : Int) : bits .and .i64 x 15 = x % 16 := and_mask x 4 (by decide)
theorem and31 (x : Int) : bits .and .i64 x 31 = x % 32 := and_mask x 5 (by decide)
theorem and63 (x : Int) : bits .and .i64 x 63 = x % 64 := and_mask x 6 (by decide)
theorem and127 (x : Int) : bits .and .i64 x 127 = x % 128 := and_mask x 7 (by decide)
theorem and255 (x : Int) : bits .and .i64 x 255 = x % 256 := and_mask x 8 (by decide)
theorem and1023 (x : Int) : bits .and .i64 x 1023 = x % 1024 := and_mask x 10 (by decide)
theorem and8191 (x : Int) : bits .and .i64 x 8191 = x % 8192 := and_mask x 13 (by decide)
theorem and65535 (x : Int) : bits .and .i64 x 65535 = x % 65536 := and_mask x 16 (by decide)

/-- One element of an owned slice is written. -/
theorem Own.store {w : World} {e : TypeId} {size : Nat} {b off n cap : Nat} {xs : List Value} {g : Option Nat} (h : Own w e size (.slice (some ⟨b, off, none⟩) n cap) n xs g) (j : Nat) (u : Value) :
    Own (w.setCell ⟨b, off + j, none⟩ u) e size (.slice (some ⟨b, off, none⟩) n cap) n (xs.set j u) g := by
  obtain ⟨hl, h⟩ := h
  rcases h with ⟨hv, _⟩ | ⟨b', off', cap', cur, hv, hg, hb, h4, h5, h6, h7⟩
  · cases hv
  · cases hv
    refine ⟨by simp [hl], .inr ⟨b, off, cap, _, rfl, hg, hb.set _ u, h4, h5, by simpa using h6, ?_⟩⟩
    rw [← h7, Array.toList_setIfInBounds, List.drop_set, if_neg (by omega), List.take_set]
    congr 1
    omega

/-! ### 5. Slices of ints that are read -/

/-- A new block of ints, as a source of an append or a call. -/
theorem src_blk {w : World} {b off n cap : Nat} {c : Array Value} {t : TypeId} {l : List Int} (h : Blk w b c t) (hc : ∀ j, j < l.length → c[off + j]? = some (.int .i64 (l.getD j 0))) (hn : n = l.length) :
    Src w 1 (.slice (some ⟨b, off, none⟩) n cap) l.length (l.map (Value.int .i64)) := by
  subst hn
  refine ⟨by simp, fun u hu => ?_, .inr ⟨_, _, rfl, fun j u hu => ?_⟩⟩
  · obtain ⟨x, _, rfl⟩ := List.mem_map.1 hu
    rfl
  · have hj : j < l.length := by have := (List.getElem?_eq_some_iff.1 hu).1; simpa using this
    rw [Addr.add_lit, h.cell, hc j hj]
    simpa [List.getD_eq_getElem?_getD, hj] using hu

theorem Own.src {w : World} {e : TypeId} {v : Value} {l : List Int} {g : Option Nat} (h : Own w e 1 v l.length (l.map (Value.int .i64)) g) : Src w 1 v l.length (l.map (Value.int .i64)) := by
  obtain ⟨a, c, rfl, _, _⟩ := h.slice
  refine ⟨by simp, fun u hu => ?_, ?_⟩
  · obtain ⟨x, _, rfl⟩ := List.mem_map.1 hu
    rfl
  · cases a with
    | none =>
      refine .inl ⟨c, rfl, ?_⟩
      cases l with
      | nil => rfl
      | cons x r =>
        obtain ⟨b, off, hb, _⟩ := h.at (j := 0) (by simp)
        cases hb
    | some x =>
      refine .inr ⟨x, c, rfl, fun j u hu => ?_⟩
      have hj : j < l.length := by have := (List.getElem?_eq_some_iff.1 hu).1; rwa [List.length_map] at this
      obtain ⟨b, off, hb, _, hc, _⟩ := h.at (j := j) (by omega)
      cases hb
      rw [Addr.add_lit, hc, hu]

/-- A slice argument of ints, read but not owned: its elements' cells. -/
def Ints (w : World) (a : Option Addr) (n : Nat) (l : List Int) : Prop :=
  l.length = n ∧ (a = none → n = 0) ∧ ∀ x, a = some x → ∀ j, j < l.length → w.cell? (x.add j) = some (.int .i64 (l.getD j 0))

theorem Ints.spot {w : World} {a : Option Addr} {n : Nat} {l : List Int} (h : Ints w a n l) (hp : 0 < l.length) : ∀ x, a = some x → x.spot = none ∧ x.block < w.heap.size := by
  intro x hx
  have hc := h.2.2 x hx 0 hp
  have e : x.add 0 = x := by simp [Addr.add]
  rw [e] at hc
  exact ⟨by simpa using World.cell?_spot hc, World.block_lt_of_cell? w _ hc⟩

/-- The first so many of them. -/
theorem Ints.src {w : World} {a : Option Addr} {n : Nat} {l : List Int} (h : Ints w a n l) (k cap : Nat) (hk : k ≤ n) : Src w 1 (.slice a k cap) (l.take k).length ((l.take k).map (Value.int .i64)) := by
  obtain ⟨hl, h0, h1⟩ := h
  have e : (l.take k).length = k := by simp; omega
  refine ⟨by simp, fun u hu => ?_, ?_⟩
  · obtain ⟨x, _, rfl⟩ := List.mem_map.1 hu
    rfl
  · rw [e]
    cases a with
    | none => exact .inl ⟨_, rfl, by have := h0 rfl; omega⟩
    | some x =>
      refine .inr ⟨_, _, rfl, fun j u hu => ?_⟩
      have hj : j < k := by have := (List.getElem?_eq_some_iff.1 hu).1; rw [List.length_map, e] at this; exact this
      rw [h1 x rfl j (by omega)]
      simpa [List.getElem?_map, List.getElem?_take, hj, List.getD_eq_getElem?_getD, show j < l.length by omega] using hu

theorem ints_blk {w : World} {b off n : Nat} {c : Array Value} {t : TypeId} {l : List Int} (h : Blk w b c t) (hc : ∀ j, j < l.length → c[off + j]? = some (.int .i64 (l.getD j 0))) (hn : n = l.length) : Ints w (some ⟨b, off, none⟩) n l := by
  refine ⟨hn.symm, fun e => (by cases e), fun x hx j hj => ?_⟩
  cases hx
  rw [Addr.add_lit, h.cell, hc j hj]

/-- An owned slice of ints, read. -/
theorem ints_own {w : World} {e : TypeId} {a : Option Addr} {n c : Nat} {l : List Int} {g : Option Nat} (hn : l.length = n) (h : Own w e 1 (.slice a n c) n (l.map (Value.int .i64)) g) : Ints w a n l := by
  refine ⟨hn, fun e => ?_, fun x hx j hj => ?_⟩
  · subst e
    cases n with
    | zero => rfl
    | succ n =>
      obtain ⟨b, off, hb, _⟩ := h.at (j := 0) (by simp)
      cases hb
  · subst hx
    obtain ⟨b, off, hb, _, hcell, _⟩ := h.at (j := j) (by omega)
    cases hb
    rw [Addr.add_lit, hcell]
    simp [List.getD_eq_getElem?_getD, hj]

theorem Ints.chg {F : Nat → Prop} {w w' : World} {a : Option Addr} {n : Nat} {l : List Int} (h : Ints w a n l) (k : Chg F w w') (hF : ∀ i, i < w.heap.size → ¬ F i) : Ints w' a n l := by
  refine ⟨h.1, h.2.1, fun x hx j hj => ?_⟩
  have hc := h.2.2 x hx j hj
  have hb := World.block_lt_of_cell? w (x.add j) hc
  rw [World.cell?_of_block (k.block _ hb (hF _ hb))]
  exact hc

/-- 'min(len(l), m)', as the walk writes it. -/
theorem min_cut (m : Int) (len : Nat) (hm : 0 ≤ m) : ∃ k : Nat, (if m < (len : Int) then m else (len : Int)) = (k : Int) ∧ k ≤ len ∧ (k : Int) ≤ m := by
  by_cases h : m < (len : Int)
  · exact ⟨m.toNat, by rw [if_pos h]; omega, by omega, by omega⟩
  · exact ⟨len, by rw [if_neg h], Nat.le_refl _, by omega⟩

section
open Go.ChangeShapes Go.WideShapes

theorem ints_of_trod {H : Type} {enc : TypeId × Value → H} {P : Program} {W : World} {base : Nat} {spare : Nat → Bool} {held : Bool} {t e : TypeId} {a : Option Addr} {len cap : Nat} {d : DataW H} {ps : List MemPlace}
    (hu : P.underlying t = some (.slice e)) (he : P.underlying e = some (.int .i64)) (hc : P.cellsOf e = 1)
    (h : DataW.Trod enc P W base spare held t (.slice a len cap) d ps) : ∃ zs, Ints W a len zs ∧ len ≤ cap ∧ ∀ n ∈ zs, (Lit.int .i64 n).wf = true := by
  obtain ⟨fuel, hf⟩ := h
  rcases open_ints hu he hc hf with ⟨hcs, _⟩ | ⟨x, l, c, zs, hcs, _, hl, hm, hz, _, hcell, hwz⟩
  · simp [Value.cells] at hcs
    obtain ⟨rfl, rfl, rfl⟩ := hcs
    exact ⟨[], ⟨rfl, fun _ => rfl, fun x hx => by cases hx⟩, Nat.le_refl _, by simp⟩
  · simp [Value.cells] at hcs
    obtain ⟨rfl, rfl, rfl⟩ := hcs
    have hlz : len ≤ zs.length := by rw [hz]; split <;> omega
    refine ⟨zs.take len, ⟨by rw [List.length_take]; omega, fun hx => (by cases hx), fun x' hx j hj => ?_⟩, hl, fun n hn => hwz n (List.mem_of_mem_take hn)⟩
    cases hx
    rw [List.length_take] at hj
    rw [hcell j (by omega)]
    simp [List.getD_eq_getElem?_getD, show j < len by omega]

/-- A row's slice of whole numbers is no longer than its weight allows. -/
theorem sized_ints {H : Type} {enc : TypeId × Value → H} {P : Program} {W : World} {base : Nat} {spare : Nat → Bool} {held : Bool} {t e : TypeId} {k : IntKind} {a : Option Addr} {len cap : Nat} {d : DataW H} {ps : List MemPlace} {ts : List TypeId} {ds : List (DataW H)} {j : Nat}
    (hsz : (DataW.weightsEach P ts ds).all (· ≤ reachBytes) = true) (ht : ts[j]? = some t) (hd : ds[j]? = some d) (hu : P.underlying t = some (.slice e)) (he : P.underlying e = some (.int k)) (hc : P.cellsOf e = 1) {B : Nat} (hB : P.bytesOf e = B)
    (h : DataW.Trod enc P W base spare held t (.slice a len cap) d ps) : len * B ≤ 140737488351232 := by
  obtain ⟨fuel, hf⟩ := h
  rcases open_ints hu he hc hf with ⟨hcs, _⟩ | ⟨x, l, c, zs, hcs, _, hl, _, hz, hx, _, _⟩
  · simp [Value.cells] at hcs
    obtain ⟨rfl, rfl, rfl⟩ := hcs
    simp
  · simp [Value.cells] at hcs
    obtain ⟨rfl, rfl, rfl⟩ := hcs
    obtain ⟨hx, _⟩ := Prod.mk.inj hx
    subst hx
    have z := sized_slice hsz ht hd hu
    rw [hB] at z
    have hl2 : len ≤ zs.length := by
      rw [hz]
      split
      · exact hl
      · exact Nat.le_refl _
    have h1 : (lits (H := H) k (zs.take len)).length + (lits (H := H) k (zs.drop len)).length = zs.length := by
      simp [lits]
      omega
    rw [h1] at z
    exact Nat.le_trans (Nat.mul_le_mul_right _ hl2) z

end

/-! ### 6. '==' of structs, field by field -/
section
variable {P : Program} {d : Nat} {xs ys : Array Value} {f : Field} {fs : List Field} {a b : Value} {r s : Bool} {w : World}
theorem fields_nil : (Op.eqFields d xs ys []).run P w = .ok true w := by simp [Op.eqFields]
theorem fields_cons (hn : (f.name == "_") = false) (ha : (part f.type xs f.offset).run P w = .ok a w) (hb : (part f.type ys f.offset).run P w = .ok b w) (he : (Op.equalIn d f.type a b).run P w = .ok r w) (hr : (Op.eqFields d xs ys fs).run P w = .ok s w) : (Op.eqFields d xs ys (f :: fs)).run P w = .ok (r && s) w := by
  have hn' : f.name ≠ "_" := by simpa using hn
  rw [Op.eqFields]
  simp only [if_pos hn', Sem.run_bind, ha, hb, he, Result.andThen_ok]
  cases r
  · simp
  · simpa using hr
theorem struct_eq {t : TypeId} {fs : Array Field} (hu : P.underlying t = some (.struct fs)) (hp : P.stoodInHeld t = false) (h : (Op.eqFields d xs ys fs.toList).run P w = .ok r w) : (Op.equalIn (d + 1) t (.agg xs) (.agg ys)).run P w = .ok r w := by
  have hf : P.fieldsOf t = fs := by simp [Program.fieldsOf, hu]
  rw [run_equalIn_struct (P := P) w d t xs ys (by rw [hf]; exact hu) hp, hf]
  exact h
end

end Go.Proofs.Ytabeolmfgmbfaaa

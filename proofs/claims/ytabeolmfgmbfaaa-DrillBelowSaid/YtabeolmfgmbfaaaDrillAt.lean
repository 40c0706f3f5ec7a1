/- Package drill: what Op keeps on its way, and only the dice turn. Every seed and form. -/
import Derived.Test.YtabeolmfgmbfaaaDrill
import Derived.Test.YtabeolmfgmbfaaaMore
namespace Go.Proofs.Ytabeolmfgmbfaaa
open Go.RowKit
set_option linter.unusedVariables false
set_option linter.unusedSimpArgs false

/-- size: some number. -/
def SomeInt (b : Nat) (w : World) (e : Ending) (w' : World) : Prop := ∃ n t : Int, e = .returned (.int .i64 n) ∧ -9223372036854775808 ≤ n ∧ n ≤ 9223372036854775807 ∧ DiceAt w' b t ∧ Chg (One b) w w'

set_option maxHeartbeats 1000000 in
theorem size_any (b : Nat) (t m : Int) (w : World) (hm : -9223372036854775808 ≤ m ∧ m ≤ 9223372036854775807) (hd : DiceAt w b t) :
    Calls Try.prog 87 #[.pointer (some ⟨b, 0, none⟩), .int .i64 m] w (SomeInt b w) := by
  have hb := hd.lt
  have HD := Lib.hid hd
  clear hd
  go_enter Try.func87, Try.ntmps87
  go_wp2_with fail
  refine (one_any b t _ 5 5 [16, 64, 200, 1024, 4000] _ rfl (by decide) (by decide) (ints_blk (Blk.new _ _ _) ?_ rfl) ?_ (HD.out.alloc _)).mono ?_
  · intro j hj
    match j, hj with
    | 0, _ => rfl
    | 1, _ => rfl
    | 2, _ => rfl
    | 3, _ => rfl
    | 4, _ => rfl
  · intro x hx
    cases hx
    simp
    omega
  rintro e w1 ⟨rfl, hd, hc⟩
  have hr := diceOf_range t 5 (by decide) (by decide)
  have hk : ([16, 64, 200, 1024, 4000] : List Int).getD (diceOf t 5).1.toNat 0 ∈ ([16, 64, 200, 1024, 4000] : List Int) := by
    rw [List.getD_eq_getElem?_getD, List.getElem?_eq_getElem (by simp; omega)]
    exact List.getElem_mem _
  generalize ([16, 64, 200, 1024, 4000] : List Int).getD (diceOf t 5).1.toNat 0 = q at *
  have hq : 1 ≤ q ∧ q ≤ 4000 := by simp at hk; omega
  have HD1 := Lib.hid hd
  have HC1 : Hid (Chg (One b) w w1) := ((Chg.refl (One b) w).alloc _).tr hc
  clear hd hc hk hr
  go_wp2_with fail
  refine (below_any b _ q _ (by omega) HD1.out).mono ?_
  rintro e w2 ⟨rfl, hd, hc⟩
  have hr := diceOf_range (diceOf t ↑5).2 q (by omega) (by omega)
  have HD2 := Lib.hid hd
  have HC2 := Lib.hid (HC1.out.tr hc)
  clear hd hc
  generalize diceOf (diceOf t ↑5).2 q = R at *
  by_cases hmin : 1 + R.1 ≤ m
  all_goals
    go_wp2_with fail
    go_ret
    exact ⟨_, R.2, rfl, by omega, by omega, HD2.out, HC2.out⟩

theorem below_some (b : Nat) (n : Int) (w : World) (h2 : n ≤ 9223372036854775807) (hd : ∃ t, DiceAt w b t) :
    Calls Try.prog 39 #[.pointer (some ⟨b, 0, none⟩), .int .i64 n] w (SomeInt b w) := by
  obtain ⟨t, hd⟩ := hd
  refine (below_any b t n w h2 hd).mono ?_
  rintro e w' ⟨rfl, h1, h3⟩
  have hr : 0 ≤ (diceOf t n).1 ∧ (diceOf t n).1 ≤ 9223372036854775807 := by
    by_cases h : n < 1
    · simp [diceOf, h]
    · have := diceOf_range t n (by omega) h2
      omega
  exact ⟨_, _, rfl, by omega, hr.2, h1, h3⟩

/-- What Op keeps on its way: the form in block cb, the result's block rb, the thing that is drawn in block ob. -/
structure OpAt (w0 w : World) (b cb rb ob : Nat) (c : Cf) (k : Int) (d : Nat) : Prop where mk ::
  dice : ∃ t, DiceAt w b t
  cc : Blk w cb c.cells 96
  rr : Blk w rb #[.int .i64 0, .int .i64 0, .int .i64 0, .int .i64 0, .int .i64 0, .int .i64 0, .int .i64 0, .slice none 0 0] 61
  oo : ∃ (x1 x2 x3 x4 x5 x6 : Int) (sa : Option Addr) (n cp : Nat) (g : Option Nat) (xs : List Value), Blk w ob #[.int .i64 k, .int .i64 x1, .int .i64 x2, .int .i64 x3, .int .i64 x4, .int .i64 x5, .int .i64 x6, .slice sa n cp] 61 ∧
    Own w 5 1 (.slice sa n cp) n xs g ∧ (∀ i, g = some i → w0.heap.size ≤ i ∧ i ≠ cb ∧ i ≠ rb ∧ i ≠ ob) ∧ n = d
  ch : Chg (One b) w0 w
  b0 : b < w0.heap.size
  b1 : w0.heap.size ≤ cb
  b2 : w0.heap.size ≤ rb
  b3 : w0.heap.size ≤ ob
  n1 : cb ≠ rb
  n2 : cb ≠ ob
  n3 : rb ≠ ob

/-- What Op answers. -/
def OpPost (b : Nat) (w : World) (e : Ending) (w' : World) : Prop := ∃ (k x1 x2 x3 x4 x5 x6 : Int) (sa : Option Addr) (n cp : Nat) (t : Int), e = .returned (.agg #[.int .i64 k, .int .i64 x1, .int .i64 x2, .int .i64 x3, .int .i64 x4, .int .i64 x5, .int .i64 x6, .slice sa n cp]) ∧ DiceAt w' b t ∧ Chg (One b) w w'

/-- The dice draw: the rest is as it was. -/
theorem OpAt.call {w0 w w' : World} {b cb rb ob : Nat} {c : Cf} {k : Int} {d : Nat} (h : OpAt w0 w b cb rb ob c k d) (hc : Chg (One b) w w') (hd : ∃ t, DiceAt w' b t) : OpAt w0 w' b cb rb ob c k d := by
  obtain ⟨_, h1, h2, ⟨x1, x2, x3, x4, x5, x6, sa, n, cp, g, xs, h3, h4, h5, h6⟩, hch, b0, b1, b2, b3, n1, n2, n3⟩ := h
  refine ⟨hd, h1.chg hc (fun e => by have : cb = b := e; omega), h2.chg hc (fun e => by have : rb = b := e; omega), ⟨x1, x2, x3, x4, x5, x6, sa, n, cp, g, xs, h3.chg hc (fun e => by have : ob = b := e; omega), h4.chg hc (fun i hi e => by have := h5 i hi; have : i = b := e; omega), h5, h6⟩, hch.tr hc, b0, b1, b2, b3, n1, n2, n3⟩
theorem OpAt.alloc {w0 w : World} {b cb rb ob : Nat} {c : Cf} {k : Int} {d : Nat} (h : OpAt w0 w b cb rb ob c k d) (o : Obj) : OpAt w0 (w.alloc o) b cb rb ob c k d := by
  obtain ⟨t, ht⟩ := h.dice
  exact h.call ((Chg.refl _ _).alloc o) ⟨t, ht.chg ((Chg.refl Non w).alloc o) (fun h => h)⟩
theorem OpAt.drew {w0 w : World} {b cb rb ob : Nat} {c : Cf} {k : Int} {d : Nat} (h : OpAt w0 w b cb rb ob c k d) : OpAt w0 w.drew b cb rb ob c k d := by
  obtain ⟨t, ht⟩ := h.dice
  exact h.call (Chg.refl (One b) w).drew ⟨t, ht⟩
/-- One of the numbers is set. -/
theorem OpAt.set {w0 w : World} {b cb rb ob : Nat} {c : Cf} {k : Int} {d : Nat} (h : OpAt w0 w b cb rb ob c k d) (j : Nat) (v : Int) (h1 : 1 ≤ j) (h6 : j ≤ 6) : OpAt w0 (w.setCell ⟨ob, j, none⟩ (.int .i64 v)) b cb rb ob c k d := by
  obtain ⟨⟨t, hd⟩, hcc, hrr, ⟨x1, x2, x3, x4, x5, x6, sa, n, cp, g, xs, ho, hw, hg, hn⟩, hch, b0, b1, b2, b3, n1, n2, n3⟩ := h
  have hs := Chg.set1 w ob j (.int .i64 v)
  refine ⟨⟨t, hd.chg hs (fun e => by have : b = ob := e; omega)⟩, hcc.chg hs (fun e => n2 e), hrr.chg hs (fun e => n3 e), ?_, hch.setCell (p := ⟨ob, j, none⟩) (.inr b3) _, b0, b1, b2, b3, n1, n2, n3⟩
  have ho2 := ho.set j (.int .i64 v)
  have hw2 := hw.chg hs (fun i hi e => (hg i hi).2.2.2 e)
  have hj : j = 1 ∨ j = 2 ∨ j = 3 ∨ j = 4 ∨ j = 5 ∨ j = 6 := by omega
  rcases hj with rfl | rfl | rfl | rfl | rfl | rfl
  · exact ⟨v, x2, x3, x4, x5, x6, sa, n, cp, g, xs, ho2, hw2, hg, hn⟩
  · exact ⟨x1, v, x3, x4, x5, x6, sa, n, cp, g, xs, ho2, hw2, hg, hn⟩
  · exact ⟨x1, x2, v, x4, x5, x6, sa, n, cp, g, xs, ho2, hw2, hg, hn⟩
  · exact ⟨x1, x2, x3, v, x5, x6, sa, n, cp, g, xs, ho2, hw2, hg, hn⟩
  · exact ⟨x1, x2, x3, x4, v, x6, sa, n, cp, g, xs, ho2, hw2, hg, hn⟩
  · exact ⟨x1, x2, x3, x4, x5, v, sa, n, cp, g, xs, ho2, hw2, hg, hn⟩
/-- What the walk reads and writes of it. -/
theorem OpAt.facts {w0 w : World} {b cb rb ob : Nat} {c : Cf} {k : Int} {d : Nat} (h : OpAt w0 w b cb rb ob c k d) :
    (∃ x1 x2 x3 x4 x5 x6 : Int, ∃ (sa : Option Addr) (n cp : Nat), w.cell? ⟨ob, 0, none⟩ = some (.int .i64 k) ∧ w.cell? ⟨ob, 1, none⟩ = some (.int .i64 x1) ∧ w.cell? ⟨ob, 2, none⟩ = some (.int .i64 x2) ∧ w.cell? ⟨ob, 3, none⟩ = some (.int .i64 x3) ∧ w.cell? ⟨ob, 4, none⟩ = some (.int .i64 x4) ∧ w.cell? ⟨ob, 5, none⟩ = some (.int .i64 x5) ∧ w.cell? ⟨ob, 6, none⟩ = some (.int .i64 x6) ∧ w.cell? ⟨ob, 7, none⟩ = some (.slice sa n cp)) ∧
    (∀ j, w.frozen? ⟨ob, j, none⟩ = false) ∧ w.cell? ⟨cb, 3, none⟩ = some (.int .i64 c.threads) ∧ w.cell? ⟨cb, 7, none⟩ = some (.int .i64 c.regs) ∧ w.cell? ⟨cb, 8, none⟩ = some (.int .i64 c.most) := by
  obtain ⟨_, hcc, hrr, ⟨x1, x2, x3, x4, x5, x6, sa, n, cp, g, xs, ho, hw, hg, hn⟩, _⟩ := h
  exact ⟨⟨x1, x2, x3, x4, x5, x6, sa, n, cp, ho.cell 0, ho.cell 1, ho.cell 2, ho.cell 3, ho.cell 4, ho.cell 5, ho.cell 6, ho.cell 7⟩, ho.free, hcc.cell 3, hcc.cell 7, hcc.cell 8⟩

/-- Some number below so much, and the way on. -/
def SomeBelow (m : Int) (w0 : World) (b cb rb ob : Nat) (c : Cf) (k : Int) (d : Nat) (e : Ending) (w' : World) : Prop := ∃ n : Int, e = .returned (.int .i64 n) ∧ 0 ≤ n ∧ n < m ∧ OpAt w0 w' b cb rb ob c k d
theorem below_opc {w0 w : World} {b cb rb ob : Nat} {c : Cf} {k : Int} {d : Nat} (n : Int) (h : OpAt w0 w b cb rb ob c k d) (h1 : 1 ≤ n) (hn : n ≤ 9223372036854775807) :
    Calls Try.prog 39 #[.pointer (some ⟨b, 0, none⟩), .int .i64 n] w (SomeBelow n w0 b cb rb ob c k d) := by
  obtain ⟨t, hd⟩ := h.dice
  refine (below_any b t n w hn hd).mono ?_
  rintro e w' ⟨rfl, hd, hc⟩
  have hr := diceOf_range t n h1 hn
  exact ⟨_, rfl, hr.1, hr.2, h.call hc ⟨_, hd⟩⟩
/-- The thing's bytes are another row. -/
theorem OpAt.data {w0 w : World} {b cb rb ob : Nat} {c : Cf} {k : Int} {d d' : Nat} (h : OpAt w0 w b cb rb ob c k d) {w1 : World} {sa : Option Addr} {cp : Nat} {g : Option Nat} {xs : List Value}
    (hc : Chg (One b) w0 w1) (hd : ∃ t, DiceAt w1 b t) (hcc : Blk w1 cb c.cells 96) (hrr : Blk w1 rb #[.int .i64 0, .int .i64 0, .int .i64 0, .int .i64 0, .int .i64 0, .int .i64 0, .int .i64 0, .slice none 0 0] 61)
    (ho : ∃ x1 x2 x3 x4 x5 x6 : Int, ∃ v, Blk w1 ob #[.int .i64 k, .int .i64 x1, .int .i64 x2, .int .i64 x3, .int .i64 x4, .int .i64 x5, .int .i64 x6, v] 61)
    (hw : Own w1 5 1 (.slice sa d' cp) d' xs g) (hg : ∀ i, g = some i → w0.heap.size ≤ i ∧ i ≠ cb ∧ i ≠ rb ∧ i ≠ ob) : OpAt w0 (w1.setCell ⟨ob, 7, none⟩ (.slice sa d' cp)) b cb rb ob c k d' := by
  obtain ⟨_, _, _, _, hch, b0, b1, b2, b3, n1, n2, n3⟩ := h
  obtain ⟨t, hd⟩ := hd
  obtain ⟨x1, x2, x3, x4, x5, x6, v, ho⟩ := ho
  have hs := Chg.set1 w1 ob 7 (.slice sa d' cp)
  exact ⟨⟨t, hd.chg hs (fun e => by have : b = ob := e; omega)⟩, hcc.chg hs (fun e => n2 e), hrr.chg hs (fun e => n3 e), ⟨x1, x2, x3, x4, x5, x6, sa, d', cp, g, xs, ho.set 7 _, hw.chg hs (fun i hi e => (hg i hi).2.2.2 e), hg, rfl⟩, hc.setCell (p := ⟨ob, 7, none⟩) (.inr b3) _, b0, b1, b2, b3, n1, n2, n3⟩

/-- Some number, and the way on. -/
def SomeOp (w0 : World) (b cb rb ob : Nat) (c : Cf) (k : Int) (d : Nat) (e : Ending) (w' : World) : Prop := ∃ n : Int, e = .returned (.int .i64 n) ∧ -9223372036854775808 ≤ n ∧ n ≤ 9223372036854775807 ∧ OpAt w0 w' b cb rb ob c k d
theorem below_op {w0 w : World} {b cb rb ob : Nat} {c : Cf} {k : Int} {d : Nat} (n : Int) (h : OpAt w0 w b cb rb ob c k d) (hn : n ≤ 9223372036854775807) :
    Calls Try.prog 39 #[.pointer (some ⟨b, 0, none⟩), .int .i64 n] w (SomeOp w0 b cb rb ob c k d) := by
  refine (below_some b n w hn h.dice).mono ?_
  rintro e w' ⟨n, t, rfl, h0, h1, hd, hc⟩
  exact ⟨n, rfl, h0, h1, h.call hc ⟨t, hd⟩⟩
theorem size_op {w0 w : World} {b cb rb ob : Nat} {c : Cf} {k : Int} {d : Nat} (m : Int) (h : OpAt w0 w b cb rb ob c k d) (hm : -9223372036854775808 ≤ m ∧ m ≤ 9223372036854775807) :
    Calls Try.prog 87 #[.pointer (some ⟨b, 0, none⟩), .int .i64 m] w (SomeOp w0 b cb rb ob c k d) := by
  obtain ⟨t, hd⟩ := h.dice
  refine (size_any b t m w hm hd).mono ?_
  rintro e w' ⟨n, t, rfl, h0, h1, hd, hc⟩
  exact ⟨n, rfl, h0, h1, h.call hc ⟨t, hd⟩⟩
theorem one_op {w0 w : World} {b cb rb ob : Nat} {c : Cf} {k : Int} {d : Nat} (l : List Int) (y : Addr) (n cap : Nat) (hn : l.length = n) (hp : 1 ≤ n) (hm : n ≤ 1000) (hl : Ints w (some y) n l) (hy : y.block ≠ b) (hb : ∀ x ∈ l, -1000000 ≤ x ∧ x ≤ 1000000) (h : OpAt w0 w b cb rb ob c k d) :
    Calls Try.prog 77 #[.pointer (some ⟨b, 0, none⟩), .slice (some y) n cap] w (SomeOp w0 b cb rb ob c k d) := by
  obtain ⟨t, hd⟩ := h.dice
  refine (one_any b t (some y) cap n l w hn hp hm hl (fun x hx => by cases hx; exact hy) hd).mono ?_
  rintro e w' ⟨rfl, hd, hc⟩
  have hr := diceOf_range t n (by omega) (by omega)
  have hx := hb (l.getD (diceOf t n).1.toNat 0) (by
    rw [List.getD_eq_getElem?_getD, List.getElem?_eq_getElem (by omega)]
    exact List.getElem_mem _)
  exact ⟨_, rfl, by omega, by omega, h.call hc ⟨_, hd⟩⟩

def kindsL : List Int := [1, 1, 1, 1, 2, 3, 4, 4, 4, 5, 6, 7, 7, 8, 9, 9, 10, 11, 11, 12, 12, 12, 13, 13, 14, 14, 14, 15, 16, 16, 16, 17, 18]
theorem kindsL_range : ∀ x ∈ kindsL, 1 ≤ x ∧ x ≤ 18 := by decide

end Go.Proofs.Ytabeolmfgmbfaaa

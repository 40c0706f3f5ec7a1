/- A row that is only read and has no room (as of a constant string turned into bytes): an append onto it makes a new one. -/
import Derived.Test.YtabeolmfgmbfaaaNum
import Derived.Lib.SlBytesConst
namespace Go.Proofs.Ytabeolmfgmbfaaa
open Go.RowKit
set_option linter.unusedVariables false
set_option linter.unusedSimpArgs false

/-- Owned; or full, and only read. -/
def OwnM (w : World) (e : TypeId) (size : Nat) (v : Value) (n : Nat) (xs : List Value) (g : Option Nat) : Prop :=
  Own w e size v n xs g ∨ (xs.length = n * size ∧ n ≤ maxLen ∧ g = none ∧ ∃ b off, v = .slice (some ⟨b, off, none⟩) n n ∧ ∀ j u, xs[j]? = some u → w.cell? ⟨b, off + j, none⟩ = some u)
theorem OwnM.chg {F : Nat → Prop} {w w' : World} {e : TypeId} {size : Nat} {v : Value} {n : Nat} {xs : List Value} {g : Option Nat} (h : OwnM w e size v n xs g) (k : Chg F w w') (hF : ∀ i, i < w.heap.size → ¬ F i) : OwnM w' e size v n xs g := by
  rcases h with h | ⟨h1, h2, h3, b, off, h4, h5⟩
  · exact .inl (h.chg k (fun i hi => hF i (h.lt i hi)))
  · refine .inr ⟨h1, h2, h3, b, off, h4, fun j u hu => ?_⟩
    have hc := h5 j u hu
    have hb := World.block_lt_of_cell? w _ hc
    rw [World.cell?_of_block (k.block _ hb (hF _ hb))]
    exact hc
theorem OwnM.slice {w : World} {e : TypeId} {size : Nat} {v : Value} {n : Nat} {xs : List Value} {g : Option Nat} (h : OwnM w e size v n xs g) : ∃ a cap, v = .slice a n cap ∧ n ≤ cap ∧ cap ≤ maxLen := by
  rcases h with h | ⟨_, h2, _, b, off, h4, _⟩
  · exact h.slice
  · exact ⟨_, _, h4, Nat.le_refl _, h2⟩

theorem run_append_OwnM {P : Program} (w : World) (t ty e : TypeId) (i : TypeInfo) (z : Value) (size bytes : Nat) (ht : P.underlying t = some (.slice e)) (hi : P.info? e = some i) (hz : i.zero = some z)
    (hsize : i.size = size) (hby : i.bytes = bytes) (hzs : z.cells.size = size) (hsz : 0 < size)
    (v : Value) (n : Nat) (xs : List Value) (g : Option Nat) (hown : OwnM w e size v n xs g)
    (x : Value) (m : Nat) (news : List Value) (hx : Src w size x m news) (hm : 0 < m)
    (h63 : n + m ≤ maxLen) (hbytes : (n + m) * bytes ≤ 140737488355328) :
    ∃ v' w' g', (Builtin.append_ #[t, t] ty #[v, x]).run P w = .ok v' w' ∧ Own w' e size v' (n + m) (xs ++ news) g' ∧ Chg (Opt g) w w' ∧ (∀ k, g' = some k → g = some k ∨ w.heap.size ≤ k) := by
  rcases hown with h | ⟨h1, h2, rfl, b, off, rfl, h5⟩
  · exact run_append_Own w t ty e i z size bytes ht hi hz hsize hby hzs hsz v n xs g h x m news hx h63 hbytes
  · subst hsize
    subst hby
    obtain ⟨hl, h1c, hx⟩ := hx
    rcases hx with ⟨c, rfl, rfl⟩ | ⟨a, c, rfl, hnews⟩
    · omega
    · have holds : ∀ j u, xs[j]? = some u → w.cell? ((⟨b, off, none⟩ : Addr).add j) = some u := by
        intro j u hu
        rw [Addr.add_lit]
        exact h5 j u hu
      obtain ⟨v', w', hr, ho, hg⟩ := run_append_arg_grows (P := P) w t ty e i z i.size i.bytes ht hi hz rfl rfl hzs hsz ⟨b, off, none⟩ n n xs h1 holds a m c news hl hnews (by omega) h63 hbytes
      exact ⟨v', w', v'.ownBlock, hr, Own.of_row ho, (Chg.refl _ w).grown hg (fun k hk => by cases hk), fun k hk => .inr (ho.lt k hk).1⟩

theorem wpList_append_OwnM {P : Program} (w : World) {ops : Array Oper} {rest : List Oper} {o : Oper} {a : Act} {Q : Exit → Act → World → Prop}
    (hg : o.guard = none) (s x : Operand) (t : TypeId) (hop : o.op = Op.call { callee := Callee.builtin Builtin.append, args := #[s, x], argTypes := #[t, t] })
    (e : TypeId) (i : TypeInfo) (z : Value) (size bytes : Nat) (h1 : P.underlying t = some (.slice e)) (h2 : P.info? e = some i) (h3 : i.zero = some z) (h4 : i.size = size) (h5 : i.bytes = bytes) (h6 : z.cells.size = size) (h7 : 0 < size)
    (v : Value) (n : Nat) (xs : List Value) (g : Option Nat) (hs : a.eval s = v) (hown : OwnM w e size v n xs g)
    (y : Value) (m : Nat) (news : List Value) (hx : a.eval x = y) (hsrc : Src w size y m news) (hm : 0 < m)
    (b1 : n + m ≤ maxLen) (b2 : (n + m) * bytes ≤ 140737488355328)
    (hK : ∀ v' w' g', Own w' e size v' (n + m) (xs ++ news) g' → Chg (Opt g) w w' → (∀ k, g' = some k → g = some k ∨ w.heap.size ≤ k) → wpList P ops Q rest (a.put o.dst v') w') :
    wpList P ops Q (o :: rest) a w := by
  refine wpList_plain hg fun K hK' => ?_
  obtain ⟨v', w', g', hrun, r1, r2, r3⟩ := run_append_OwnM (P := P) w t o.type e i z size bytes h1 h2 h3 h4 h5 h6 h7 v n xs g hown y m news hsrc hm b1 b2
  unfold Oper.wp
  simp [execOp, hop, resolve, invoke, builtin, hs, hx, hrun, Result.andThen]
  exact hK' _ _ (hK v' w' g' r1 r2 r3)

/-- The mark's bytes. -/
theorem conv_mark (w : World) : (convert 59 59 (.slice (some ⟨w.heap.size, 0, none⟩) 3 3)).run Try.prog (w.alloc (.cells #[.int .u8 67, .int .u8 84, .int .u8 49] 5)) = .ok (.slice (some ⟨w.heap.size, 0, none⟩) 3 3) (w.alloc (.cells #[.int .u8 67, .int .u8 84, .int .u8 49] 5 (3, 4))) :=
  Go.Lib.run_convert_bytes_const w 59 5 #[.int .u8 67, .int .u8 84, .int .u8 49] 3 3 Try.underlying59 Try.underlying5
theorem own_mark (w : World) (o : Nat × Nat) : OwnM (w.alloc (.cells #[.int .u8 67, .int .u8 84, .int .u8 49] 5 o)) 5 1 (.slice (some ⟨w.heap.size, 0, none⟩) 3 3) 3 (bytesV [67, 84, 49]) none := by
  refine .inr ⟨by simp [bytesV], by decide, rfl, _, 0, rfl, fun j u hu => ?_⟩
  rw [World.cell?_alloc_mark]
  match j, hu with
  | 0, hu => simpa [bytesV] using hu
  | 1, hu => simpa [bytesV] using hu
  | 2, hu => simpa [bytesV] using hu
  | j + 3, hu => simp [bytesV] at hu

end Go.Proofs.Ytabeolmfgmbfaaa

/- More words of my own: an append onto an owned slice at a step of a region that draws; small laws on footprints. Of every program. -/
import Derived.Test.YtabeolmfgmbfaaaBase
import Derived.Deep.RegionHeld3
import Derived.Deep.RegionLaw
import Derived.ChangeAlike
namespace Go.Proofs.Ytabeolmfgmbfaaa
open Go.RowKit
set_option linter.unusedVariables false
set_option linter.unusedSimpArgs false

theorem step_append_Own {P : Program} {w : World} {ops : Array Oper} {o : Oper} {a : Act} {K : Act → World → Prop} {Q : Exit → Act → World → Prop} {E : Prop}
    (hg : o.guard = none) (s x : Operand) (t : TypeId) (hop : o.op = Op.call { callee := Callee.builtin Builtin.append, args := #[s, x], argTypes := #[t, t] })
    (e : TypeId) (i : TypeInfo) (z : Value) (size bytes : Nat) (h1 : P.underlying t = some (.slice e)) (h2 : P.info? e = some i) (h3 : i.zero = some z) (h4 : i.size = size) (h5 : i.bytes = bytes) (h6 : z.cells.size = size) (h7 : 0 < size)
    (v : Value) (n : Nat) (xs : List Value) (g : Option Nat) (hs : a.eval s = v) (hown : Own w e size v n xs g)
    (y : Value) (m : Nat) (news : List Value) (hx : a.eval x = y) (hsrc : Src w size y m news)
    (b1 : n + m ≤ maxLen) (b2 : (n + m) * bytes ≤ 140737488355328)
    (hK : ∀ v' w' g', Own w' e size v' (n + m) (xs ++ news) g' → Chg (Opt g) w w' → (∀ k, g' = some k → g = some k ∨ w.heap.size ≤ k) → K (a.put o.dst v') w') :
    if Region.wanted o (yielded ops a.tmps) = true then Oper.wp P o a w K Q else E := by
  have hw : Region.wanted o (yielded ops a.tmps) = true := by simp [Region.wanted, hg]
  rw [if_pos hw]
  obtain ⟨v', w', g', hrun, r1, r2, r3⟩ := run_append_Own (P := P) w t o.type e i z size bytes h1 h2 h3 h4 h5 h6 h7 v n xs g hown y m news hsrc b1 b2
  unfold Oper.wp
  simp [execOp, hop, resolve, invoke, builtin, hs, hx, hrun, Result.andThen]
  exact hK v' w' g' r1 r2 r3

theorem Try.info_byte : (Try.prog.info? 5).map (fun i => (i.zero, i.size, i.bytes)) = some (some (.int .u8 0), 1, 1) := by kernel_rfl

/-- One new cell, as a source. -/
theorem src_one {w : World} {b : Nat} {c : Array Value} {t : TypeId} {u : Value} {cap : Nat} (h : Blk w b c t) (hc : c[0]? = some u) (h1 : u.oneCell' = true) : Src w 1 (.slice (some ⟨b, 0, none⟩) 1 cap) 1 [u] := by
  refine ⟨rfl, by simpa using h1, .inr ⟨_, _, rfl, fun j v hv => ?_⟩⟩
  match j, hv with
  | 0, hv =>
    rw [show (⟨b, 0, none⟩ : Addr).add 0 = ⟨b, 0, none⟩ from rfl, h.cell, hc]
    simpa using hv

/-- A block that is laid from a literal list of ints. -/
theorem ints_lit {w : World} {b : Nat} {t : TypeId} (l : List Int) (h : Blk w b (l.map (Value.int .i64)).toArray t) : Ints w (some ⟨b, 0, none⟩) l.length l :=
  ints_blk (off := 0) h (fun j hj => by simp [List.getD_eq_getElem?_getD, hj]) rfl

/-- A new block, its number as the walk writes it. -/
theorem Blk.newAt (w : World) (c : Array Value) (t : TypeId) {n : Nat} (hn : n = w.heap.size) : Blk (w.alloc (.cells c t)) n c t := hn ▸ Blk.new w c t

end Go.Proofs.Ytabeolmfgmbfaaa

/- TraceSame's walk and its arguments, together. -/
import Derived.Test.YtabeolmfgmbfaaaLaw54e
import Derived.Test.YtabeolmfgmbfaaaOpen54
namespace Go.Proofs.Ytabeolmfgmbfaaa
open Go.RowKit Go.ChangeShapes Go.WideShapes Go.Deep
set_option maxRecDepth 100000 in
/-- A thing by value. -/
theorem op_of_Trod {H : Type} {enc : TypeId × Value → H} {w : World} {base : Nat} {spare : Nat → Bool} {held : Bool} {v : Value} {r : Reach} {b0 : Nat} {d : DataW H} {ps : List MemPlace} (hv : Value.okWide Try.prog w r b0 61 v) (h : DataW.Trod enc Try.prog w base spare held 61 v d ps) (hw : ∀ n ∈ d.weights Try.prog 61, n ≤ reachBytes) :
    ∃ o : OpV, v = .agg o.cells ∧ o.ok w := by
  obtain ⟨cs, rfl, _⟩ := okWide_struct Try.underlying61 hv
  obtain ⟨fuel, hf⟩ := h
  obtain ⟨o, ho, hok⟩ := op_of_trod hf hw
  refine ⟨o, ?_, hok⟩
  have e : cs.toList = o.cells.toList := ho
  rw [Array.toList_inj.1 e]
end Go.Proofs.Ytabeolmfgmbfaaa

/- TraceAny's walk and its argument, together. -/
import Derived.Test.YtabeolmfgmbfaaaLaw54c
import Derived.Test.YtabeolmfgmbfaaaOpen54
namespace Go.Proofs.Ytabeolmfgmbfaaa
open Go.RowKit Go.ChangeShapes Go.WideShapes Go.Deep
theorem bys_of_Trod {H : Type} {enc : TypeId × Value → H} {w : World} {base : Nat} {spare : Nat → Bool} {held : Bool} {a : Option Addr} {len cap : Nat} {d : DataW H} {ps : List MemPlace} (h : DataW.Trod enc Try.prog w base spare held 59 (.slice a len cap) d ps) (hw : ∀ n ∈ d.weights Try.prog 59, n ≤ reachBytes) :
    ∃ l, Bys w a len l ∧ (∀ y ∈ l, 0 ≤ y ∧ y ≤ 255) ∧ len ≤ cap ∧ len ≤ 140737488351232 := by
  obtain ⟨fuel, hf⟩ := h
  obtain ⟨a', n', c', l, hv, h1, h2, h3, h4⟩ := bys_of_trod (v := .slice a len cap) hf hw
  cases hv
  exact ⟨l, h1, h2, h3, h4⟩
end Go.Proofs.Ytabeolmfgmbfaaa

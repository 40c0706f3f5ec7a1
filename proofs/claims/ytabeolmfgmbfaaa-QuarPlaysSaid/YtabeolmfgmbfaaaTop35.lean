/- QuarPlays' walk and its argument, together. -/
import Derived.Test.YtabeolmfgmbfaaaPlay35
import Derived.Deep.Slices
import Derived.Deep.Fields
import Derived.ChangeSlices
import Derived.SizedLaws
namespace Go.Proofs.Ytabeolmfgmbfaaa
open Go.RowKit Go.ChangeShapes Go.WideShapes Go.Deep
set_option linter.unusedVariables false
set_option linter.unusedSimpArgs false

section
variable {H : Type} {enc : TypeId × Value → H} {w : World} {base : Nat} {spare : Nat → Bool} {held : Bool}

set_option maxRecDepth 100000 in
theorem act_of_trod {fuel : Nat} {cs : List Value} {x : DataW H × List MemPlace} (h : DataW.trod enc Try.prog w base spare held fuel 77 cs = some x) :
    ∃ p : Int × Int, cs = [.int .i64 p.1, .int .i64 p.2] ∧ (-9223372036854775808 ≤ p.1 ∧ p.1 ≤ 9223372036854775807) ∧ (-9223372036854775808 ≤ p.2 ∧ p.2 ≤ 9223372036854775807) := by
  obtain ⟨xs, n, _, hx, hlen, hxl, hf⟩ := DataW.trod_struct Try.underlying77 h
  have h2 : Try.prog.cellsOf 77 = 2 := by kernel_rfl
  rw [h2] at hlen
  match cs, hlen with
  | [c0, c1], _ =>
    have g0 := hf 0 _ rfl
    obtain ⟨y0, hy0⟩ : ∃ y, xs[0]? = some y := ⟨_, List.getElem?_eq_getElem (by rw [hxl]; decide)⟩
    rw [hy0] at g0
    obtain ⟨n0, hn0, _, hw0⟩ := DataW.trod_int Try.underlying3 g0
    have e0 : c0 = .int .i64 n0 := by
      have h : [c0] = [Value.int .i64 n0] := hn0
      simpa using h
    have g1 := hf 1 _ rfl
    obtain ⟨y1, hy1⟩ : ∃ y, xs[1]? = some y := ⟨_, List.getElem?_eq_getElem (by rw [hxl]; decide)⟩
    rw [hy1] at g1
    obtain ⟨n1, hn1, _, hw1⟩ := DataW.trod_int Try.underlying3 g1
    have e1 : c1 = .int .i64 n1 := by
      have h : [c1] = [Value.int .i64 n1] := hn1
      simpa using h
    exact ⟨(n0, n1), by rw [e0, e1], bounds_i64 hw0, bounds_i64 hw1⟩

theorem acts_of_trod {a : Option Addr} {len cap : Nat} {d : DataW H} {ps : List MemPlace} (h : DataW.Trod enc Try.prog w base spare held 70 (.slice a len cap) d ps) (hw : ∀ n ∈ d.weights Try.prog 70, n ≤ reachBytes) :
    ∃ l : List (Int × Int), Acts w a len l ∧ (∀ p ∈ l, (-9223372036854775808 ≤ p.1 ∧ p.1 ≤ 9223372036854775807) ∧ (-9223372036854775808 ≤ p.2 ∧ p.2 ≤ 9223372036854775807)) ∧ len ≤ 9000000000000000000 := by
  obtain ⟨fuel, hf⟩ := h
  rcases open_slice Try.underlying70 hf with ⟨hcs, _⟩ | ⟨x, l, c, m, n, D, Pl, hcs, hq, hl, hm, hmm, hx, hi⟩
  · simp [Value.cells] at hcs
    obtain ⟨rfl, rfl, rfl⟩ := hcs
    refine ⟨[], ⟨rfl, fun j p hp => ?_⟩, fun p hp => (by cases hp), Nat.zero_le _⟩
    simp at hp
  · simp [Value.cells] at hcs
    obtain ⟨rfl, rfl, rfl⟩ := hcs
    have h2 : Try.prog.cellsOf 77 = 2 := by kernel_rfl
    have hlm : len ≤ m := by rw [hmm]; split <;> omega
    have h16 : Try.prog.bytesOf 77 = 16 := by kernel_rfl
    have hdx : d = .slice ((List.range len).map D) ((List.range (m - len)).map fun j => D (len + j)) := (Prod.mk.inj hx).1
    have hsz : (len + (m - len)) * 16 ≤ reachBytes := by
      have := hw ((((List.range len).map D).length + ((List.range (m - len)).map fun j => D (len + j)).length) * Try.prog.bytesOf 77) (by
        rw [hdx]
        simp only [DataW.weights, Try.underlying70, List.mem_cons]
        exact .inl trivial)
      simpa [h16] using this
    have each : ∀ i, i < len → ∃ p : Int × Int, (w.cell? (x.add (i * 2)) = some (.int .i64 p.1) ∧ w.cell? (x.add (i * 2 + 1)) = some (.int .i64 p.2)) ∧ (-9223372036854775808 ≤ p.1 ∧ p.1 ≤ 9223372036854775807) ∧ (-9223372036854775808 ≤ p.2 ∧ p.2 ≤ 9223372036854775807) := by
      intro i hil
      obtain ⟨cs', hc', ht⟩ := hi i (by omega)
      rw [h2] at hc'
      obtain ⟨p, hp, hb⟩ := act_of_trod ht
      obtain ⟨_, hcl, hat⟩ := World.cells?_some hc'
      refine ⟨p, ⟨?_, ?_⟩, hb⟩
      · have := hat 0 (by omega)
        rw [add_add] at this
        rw [show i * 2 = i * 2 + 0 from rfl, this, hp]
        rfl
      · have := hat 1 (by omega)
        rw [add_add] at this
        rw [this, hp]
        rfl
    refine ⟨(List.range len).map fun i => if h : i < len then Classical.choose (each i h) else (0, 0), ⟨by simp, fun j p hp => ?_⟩, fun p hp => ?_, ?_⟩
    · have hjl : j < len := by
        have := (List.getElem?_eq_some_iff.1 hp).1
        simpa using this
      simp [hjl] at hp
      subst hp
      have hspec := Classical.choose_spec (each j hjl)
      generalize Classical.choose (each j hjl) = p at hspec ⊢
      obtain ⟨⟨c0, c1⟩, _⟩ := hspec
      have hsp : x.spot = none := by
        obtain ⟨q, ⟨d0, _⟩, _⟩ := each 0 (by omega)
        have := World.cell?_spot d0
        simpa [Addr.add] using this
      clear each hi hf hq
      obtain ⟨xb, xo, xs⟩ := x
      simp at hsp
      subst hsp
      rw [Addr.add_lit] at c0 c1
      exact ⟨xb, xo, rfl, c0, by rw [Nat.add_assoc]; exact c1⟩
    · obtain ⟨i, hir, rfl⟩ := List.mem_map.1 hp
      have hil := List.mem_range.1 hir
      rw [dif_pos hil]
      exact (Classical.choose_spec (each i hil)).2
    · simp only [reachBytes] at hsz; omega
theorem w_of_each35 {P : Program} {ts : List TypeId} {ds : List (DataW H)} (h : (DataW.weightsEach P ts ds).all (· ≤ reachBytes) = true) {j : Nat} {t : TypeId} {d : DataW H} (ht : ts[j]? = some t) (hd : ds[j]? = some d) : ∀ n ∈ d.weights P t, n ≤ reachBytes := by
  intro n hn
  have := List.all_eq_true.1 h n (DataW.weights_mem_each ht hd n hn)
  simpa using this
end

theorem quarPlays_any (a : Option Addr) (len cap : Nat) (l : List (Int × Int)) (w : World) (hl : Acts w a len l) (hw : ∀ p ∈ l, (-9223372036854775808 ≤ p.1 ∧ p.1 ≤ 9223372036854775807) ∧ (-9223372036854775808 ≤ p.2 ∧ p.2 ≤ 9223372036854775807)) (hlen : len ≤ 9000000000000000000) :
    Calls Try.prog 14 #[.slice a len cap] w fun e w' => e = .returned (.bool true) ∧ Below w.heap.size w w' :=
  (quarPlays_walk a len cap l w hl hw hlen).mono fun _ _ ⟨h, k⟩ => ⟨h, k.below⟩
end Go.Proofs.Ytabeolmfgmbfaaa

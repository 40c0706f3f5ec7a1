/- Arguments that are things, or lists of things, that are done: opened. -/
import Derived.Test.YtabeolmfgmbfaaaOpl
import Derived.Deep.Slices
import Derived.Deep.Fields
import Derived.ChangeSlices
import Derived.SizedLaws
namespace Go.Proofs.Ytabeolmfgmbfaaa
open Go.RowKit Go.ChangeShapes Go.WideShapes Go.Deep
set_option linter.unusedVariables false
set_option linter.unusedSimpArgs false

section
variable {H : Type} {enc : TypeId × Value → H} {w : World} {base : Nat} {spare : Nat → Bool} {held : Bool}

/-- Bytes. -/
theorem bys_of_trod {fuel : Nat} {v : Value} {x : DataW H × List MemPlace} (h : DataW.trod enc Try.prog w base spare held fuel 59 [v] = some x) (hw : ∀ n ∈ x.1.weights Try.prog 59, n ≤ reachBytes) :
    ∃ (a : Option Addr) (n c : Nat) (l : List Int), v = .slice a n c ∧ Bys w a n l ∧ (∀ y ∈ l, 0 ≤ y ∧ y ≤ 255) ∧ n ≤ c ∧ n ≤ 140737488351232 := by
  rcases open_ints Try.underlying59 Try.underlying5 (by kernel_rfl) h with ⟨hcs, _⟩ | ⟨a, l, c, zs, hcs, _, hl, hm, hz, hx, hcell, hwz⟩
  · simp at hcs
    subst hcs
    exact ⟨none, 0, 0, [], rfl, ⟨rfl, fun _ => rfl, fun x hx => by cases hx⟩, (fun y hy => by cases hy), Nat.le_refl _, Nat.zero_le _⟩
  · simp at hcs
    subst hcs
    have hlz : l ≤ zs.length := by rw [hz]; split <;> omega
    refine ⟨some a, l, c, zs.take l, rfl, ⟨by rw [List.length_take]; omega, fun e => (by cases e), fun y hy j hj => ?_⟩, fun y hy => bounds_u8 (hwz y (List.mem_of_mem_take hy)), hl, ?_⟩
    · cases hy
      rw [List.length_take] at hj
      rw [hcell j (by omega)]
      simp [List.getD_eq_getElem?_getD, show j < l by omega]
    · have hb : Try.prog.bytesOf 5 = 1 := by kernel_rfl
      have := hw (((lits (H := H) .u8 (zs.take l)).length + (lits (H := H) .u8 (zs.drop l)).length) * Try.prog.bytesOf 5) (by
        rw [hx]
        simp [DataW.weights, Try.underlying59])
      rw [hb] at this
      simp [lits, reachBytes] at this
      omega

set_option maxRecDepth 100000 in
/-- A thing. -/
theorem op_of_trod {fuel : Nat} {cs : List Value} {x : DataW H × List MemPlace} (h : DataW.trod enc Try.prog w base spare held fuel 61 cs = some x) (hw : ∀ n ∈ x.1.weights Try.prog 61, n ≤ reachBytes) :
    ∃ o : OpV, cs = o.cells.toList ∧ o.ok w := by
  obtain ⟨xs, n, _, hx, hlen, hxl, hf⟩ := DataW.trod_struct Try.underlying61 h
  have h8 : Try.prog.cellsOf 61 = 8 := by kernel_rfl
  rw [h8] at hlen
  match cs, hlen with
  | [c0, c1, c2, c3, c4, c5, c6, c7], _ =>
    have ci : Try.prog.cellsOf 3 = 1 := by kernel_rfl
    have cb : Try.prog.cellsOf 59 = 1 := by kernel_rfl
    have g0 := hf 0 _ rfl
    obtain ⟨y0, hy0⟩ : ∃ y, xs[0]? = some y := ⟨_, List.getElem?_eq_getElem (by rw [hxl]; decide)⟩
    rw [hy0] at g0
    obtain ⟨n0, hn0, _, hw0⟩ := DataW.trod_int Try.underlying3 g0
    have e0 : c0 = .int .i64 n0 := by
      have h : [c0] = [Value.int .i64 n0] := hn0
      simpa using h
    have g1 := hf 1 _ rfl
    obtain ⟨y1, hy1⟩ : ∃ y, xs[1]? = some y := ⟨_, List.getElem?_eq_getElem (by rw [hxl]; decide)⟩
    rw [hy1] at g1
    obtain ⟨n1, hn1, _, hw1⟩ := DataW.trod_int Try.underlying3 g1
    have e1 : c1 = .int .i64 n1 := by
      have h : [c1] = [Value.int .i64 n1] := hn1
      simpa using h
    have g2 := hf 2 _ rfl
    obtain ⟨y2, hy2⟩ : ∃ y, xs[2]? = some y := ⟨_, List.getElem?_eq_getElem (by rw [hxl]; decide)⟩
    rw [hy2] at g2
    obtain ⟨n2, hn2, _, hw2⟩ := DataW.trod_int Try.underlying3 g2
    have e2 : c2 = .int .i64 n2 := by
      have h : [c2] = [Value.int .i64 n2] := hn2
      simpa using h
    have g3 := hf 3 _ rfl
    obtain ⟨y3, hy3⟩ : ∃ y, xs[3]? = some y := ⟨_, List.getElem?_eq_getElem (by rw [hxl]; decide)⟩
    rw [hy3] at g3
    obtain ⟨n3, hn3, _, hw3⟩ := DataW.trod_int Try.underlying3 g3
    have e3 : c3 = .int .i64 n3 := by
      have h : [c3] = [Value.int .i64 n3] := hn3
      simpa using h
    have g4 := hf 4 _ rfl
    obtain ⟨y4, hy4⟩ : ∃ y, xs[4]? = some y := ⟨_, List.getElem?_eq_getElem (by rw [hxl]; decide)⟩
    rw [hy4] at g4
    obtain ⟨n4, hn4, _, hw4⟩ := DataW.trod_int Try.underlying3 g4
    have e4 : c4 = .int .i64 n4 := by
      have h : [c4] = [Value.int .i64 n4] := hn4
      simpa using h
    have g5 := hf 5 _ rfl
    obtain ⟨y5, hy5⟩ : ∃ y, xs[5]? = some y := ⟨_, List.getElem?_eq_getElem (by rw [hxl]; decide)⟩
    rw [hy5] at g5
    obtain ⟨n5, hn5, _, hw5⟩ := DataW.trod_int Try.underlying3 g5
    have e5 : c5 = .int .i64 n5 := by
      have h : [c5] = [Value.int .i64 n5] := hn5
      simpa using h
    have g6 := hf 6 _ rfl
    obtain ⟨y6, hy6⟩ : ∃ y, xs[6]? = some y := ⟨_, List.getElem?_eq_getElem (by rw [hxl]; decide)⟩
    rw [hy6] at g6
    obtain ⟨n6, hn6, _, hw6⟩ := DataW.trod_int Try.underlying3 g6
    have e6 : c6 = .int .i64 n6 := by
      have h : [c6] = [Value.int .i64 n6] := hn6
      simpa using h
    have g7 := hf 7 _ rfl
    obtain ⟨y7, hy7⟩ : ∃ y, xs[7]? = some y := ⟨_, List.getElem?_eq_getElem (by rw [hxl]; decide)⟩
    rw [hy7] at g7
    have hw7 : ∀ n ∈ y7.1.weights Try.prog 59, n ≤ reachBytes := by
      intro m hm
      refine hw m ?_
      rw [hx]
      simp only [DataW.weights, Try.underlying61]
      exact DataW.weights_mem_each (j := 7) (t := 59) rfl (by rw [List.getElem?_map, hy7]; rfl) m hm
    obtain ⟨a, dn, dc, l, e7, hbys, hbyte, hdc, hdn⟩ := bys_of_trod (v := c7) g7 hw7
    refine ⟨⟨n0, n1, n2, n3, n4, n5, n6, a, dn, dc, l⟩, ?_, ⟨fun y hy => ?_, hbys, hbyte, hdc, hdn⟩⟩
    · rw [e0, e1, e2, e3, e4, e5, e6, e7]; rfl
    · simp only [OpV.nums, List.mem_cons, List.not_mem_nil, or_false] at hy
      rcases hy with rfl | rfl | rfl | rfl | rfl | rfl | rfl | rfl
      · exact bounds_i64 hw0
      · exact bounds_i64 hw1
      · exact bounds_i64 hw2
      · exact bounds_i64 hw3
      · exact bounds_i64 hw4
      · exact bounds_i64 hw5
      · exact bounds_i64 hw6
      · omega

theorem mem_weightsAll {P : Program} {e : TypeId} : ∀ {ds : List (DataW H)} {d : DataW H}, d ∈ ds → ∀ n ∈ d.weights P e, n ∈ DataW.weightsAll P e ds
  | d0 :: ds, d, hd, n, hn => by
    simp only [DataW.weightsAll, List.mem_append]
    rcases List.mem_cons.1 hd with rfl | hd
    · exact .inl hn
    · exact .inr (mem_weightsAll hd n hn)
  | [], _, hd, _, _ => by cases hd

/-- A list of things. -/
theorem opl_of_trod {a : Option Addr} {len cap : Nat} {d : DataW H} {ps : List MemPlace} (h : DataW.Trod enc Try.prog w base spare held 58 (.slice a len cap) d ps) (hw : ∀ n ∈ d.weights Try.prog 58, n ≤ reachBytes) :
    ∃ l : List OpV, Opl w a len l ∧ len ≤ cap ∧ len ≤ 1759218604390 := by
  obtain ⟨fuel, hf⟩ := h
  rcases open_slice Try.underlying58 hf with ⟨hcs, _⟩ | ⟨x, l, c, m, n, D, Pl, hcs, _, hl, hm, hmm, hx, hi⟩
  · simp [Value.cells] at hcs
    obtain ⟨rfl, rfl, rfl⟩ := hcs
    exact ⟨[], ⟨rfl, fun _ => rfl, (fun o ho => by cases ho), fun x hx => by cases hx⟩, Nat.le_refl _, Nat.zero_le _⟩
  · simp [Value.cells] at hcs
    obtain ⟨rfl, rfl, rfl⟩ := hcs
    have h8 : Try.prog.cellsOf 61 = 8 := by kernel_rfl
    have h80 : Try.prog.bytesOf 61 = 80 := by kernel_rfl
    have hdx : d = .slice ((List.range len).map D) ((List.range (m - len)).map fun j => D (len + j)) := (Prod.mk.inj hx).1
    have hwt : ∀ n ∈ DataW.weightsAll Try.prog 61 ((List.range len).map D), n ≤ reachBytes := by
      intro k hk
      refine hw k ?_
      rw [hdx]
      simp only [DataW.weights, Try.underlying58, List.mem_cons, List.mem_append]
      exact .inr (.inl hk)
    have hsz : (len + (m - len)) * 80 ≤ reachBytes := by
      have := hw ((((List.range len).map D).length + ((List.range (m - len)).map fun j => D (len + j)).length) * Try.prog.bytesOf 61) (by
        rw [hdx]
        simp only [DataW.weights, Try.underlying58, List.mem_cons]
        exact .inl trivial)
      simpa [h80] using this
    have hlm : len ≤ m := by rw [hmm]; split <;> omega
    have each : ∀ i, i < len → ∃ o : OpV, o.ok w ∧ ∀ k, k < 8 → w.cell? (x.add (i * 8 + k)) = o.cells[k]? := by
      intro i hil
      obtain ⟨cs', hc', ht⟩ := hi i (by omega)
      rw [h8] at hc'
      obtain ⟨o, ho, hok⟩ := op_of_trod ht (fun k hk => hwt k (mem_weightsAll (List.mem_map.2 ⟨i, List.mem_range.2 hil, rfl⟩) k hk))
      obtain ⟨_, hcl, hat⟩ := World.cells?_some hc'
      refine ⟨o, hok, fun k hk => ?_⟩
      have := hat k hk
      rw [add_add] at this
      rw [this, ho]
      simp
    refine ⟨(List.range len).map fun i => if h : i < len then Classical.choose (each i h) else ⟨0, 0, 0, 0, 0, 0, 0, none, 0, 0, []⟩, ⟨by simp, fun e => (by cases e), fun o ho => ?_, fun y hy j o ho k hk => ?_⟩, hl, by simp [reachBytes] at hsz; omega⟩
    · obtain ⟨i, hir, rfl⟩ := List.mem_map.1 ho
      have hil := List.mem_range.1 hir
      rw [dif_pos hil]
      exact (Classical.choose_spec (each i hil)).1
    · cases hy
      have hjl : j < len := by
        have := (List.getElem?_eq_some_iff.1 ho).1
        simpa using this
      simp [hjl] at ho
      subst ho
      exact (Classical.choose_spec (each j hjl)).2 k hk

theorem w_of_each {P : Program} {ts : List TypeId} {ds : List (DataW H)} (h : (DataW.weightsEach P ts ds).all (· ≤ reachBytes) = true) {j : Nat} {t : TypeId} {d : DataW H} (ht : ts[j]? = some t) (hd : ds[j]? = some d) : ∀ n ∈ d.weights P t, n ≤ reachBytes := by
  intro n hn
  have := List.all_eq_true.1 h n (DataW.weights_mem_each ht hd n hn)
  simpa using this

end
end Go.Proofs.Ytabeolmfgmbfaaa

/- Plain laws on orders: what is drawn is a permutation; an order has a way back; what has one is an order. Lists of ints alone. -/
import Derived.Test.YtabeolmfgmbfaaaShuf
namespace Go.Proofs.Ytabeolmfgmbfaaa
open Go.RowKit
set_option linter.unusedVariables false
set_option linter.unusedSimpArgs false

theorem pigeon : ∀ (a b : List Int), a.Nodup → (∀ x ∈ a, x ∈ b) → b.length ≤ a.length → a.Perm b
  | [], b, _, _, h => by
    have : b = [] := List.eq_nil_of_length_eq_zero (by simpa using h)
    rw [this]
  | x :: a, b, hn, hs, hl => by
    have hx : x ∈ b := hs x (by simp)
    have hp := List.perm_cons_erase hx
    have hn2 := List.nodup_cons.1 hn
    have hlb := List.length_erase_of_mem hx
    have hpos := List.length_pos_of_mem hx
    refine (List.Perm.cons x (pigeon a (b.erase x) hn2.2 (fun y hy => ?_) ?_)).trans hp.symm
    · have hne : y ≠ x := fun e => hn2.1 (e ▸ hy)
      exact (List.mem_erase_of_ne hne).2 (hs y (by simp [hy]))
    · simp at hl; omega

theorem swap_perm (xs : List Int) (i k : Nat) (hi : i < xs.length) (hk : k < xs.length) : (swap xs i k).Perm xs := by
  have h := Array.swap_perm (xs := xs.toArray) (i := i) (j := k) (by simpa using hi) (by simpa using hk)
  have h2 := Array.perm_iff_toList_perm.1 h
  rw [Array.toList_swap] at h2
  simpa [swap, List.getD_eq_getElem?_getD, hi, hk] using h2

theorem shufOf_perm : ∀ (i : Nat) (xs l : List Int) (u : Int), i < xs.length ∨ i = 0 → i < 1000000 → (shufOf i xs l u).1.Perm xs
  | 0, xs, l, u, _, _ => List.Perm.refl _
  | i + 1, xs, l, u, h, hb => by
    have hr := drawOf_range l u (i + 2) (by omega) (by omega)
    rw [shufOf]
    refine (shufOf_perm i _ _ _ (by rw [swap_length]; omega) (by omega)).trans (swap_perm _ _ _ (by omega) (by omega))

def rangeI (n : Nat) : List Int := (List.range n).map Int.ofNat
theorem mem_rangeI {n : Nat} {x : Int} : x ∈ rangeI n ↔ 0 ≤ x ∧ x < n := by
  unfold rangeI
  simp only [List.mem_map, List.mem_range]
  constructor
  · rintro ⟨a, ha, rfl⟩
    exact ⟨Int.natCast_nonneg _, Int.ofNat_lt.2 ha⟩
  · rintro ⟨h0, h1⟩
    exact ⟨x.toNat, by omega, Int.toNat_of_nonneg h0⟩
theorem nodup_rangeI (n : Nat) : (rangeI n).Nodup := by
  unfold rangeI
  refine List.Pairwise.map _ (fun a b h e => h ?_) (List.nodup_range)
  exact Int.ofNat.inj e
theorem length_rangeI (n : Nat) : (rangeI n).length = n := by simp [rangeI]

theorem back_ok (n : Nat) : ∀ (r : List Int) (i : Nat) (out : List Int) (seen : List Bool), (∀ x ∈ r, 0 ≤ x ∧ x < n ∧ seen.getD x.toNat false = false) → r.Nodup → seen.length = n → out.length = n →
    ∃ out', backGo n r i out seen = some out' ∧ out'.length = n ∧ (∀ j, j < r.length → out'.getD (r.getD j 0).toNat 0 = ((i + j : Nat) : Int)) ∧ ∀ y : Nat, (∀ x ∈ r, x.toNat ≠ y) → out'.getD y 0 = out.getD y 0
  | [], i, out, seen, _, _, _, ho => ⟨out, rfl, ho, fun j hj => by simp at hj, fun _ _ => rfl⟩
  | x :: r, i, out, seen, hx, hn, hs, ho => by
    obtain ⟨h0, h1, h2⟩ := hx x (by simp)
    have hn2 := List.nodup_cons.1 hn
    have hc : ¬ (x < 0 ∨ (n : Int) ≤ x ∨ seen.getD x.toNat false = true) := by
      rintro (h | h | h)
      · omega
      · omega
      · rw [h2] at h; cases h
    obtain ⟨out', e1, e2, e3, e4⟩ := back_ok n r (i + 1) (out.set x.toNat i) (seen.set x.toNat true) (fun y hy => by
      obtain ⟨a0, a1, a2⟩ := hx y (by simp [hy])
      refine ⟨a0, a1, ?_⟩
      have hne : x.toNat ≠ y.toNat := fun e => hn2.1 (by rw [show x = y by omega]; exact hy)
      simpa [List.getD_eq_getElem?_getD, List.getElem?_set, hne] using a2) hn2.2 (by simpa using hs) (by simpa using ho)
    refine ⟨out', by rw [backGo, if_neg hc]; exact e1, e2, fun j hj => ?_, fun y hy => ?_⟩
    · cases j with
      | zero =>
        have := e4 x.toNat (fun y hy e => hn2.1 (by
          obtain ⟨a0, _, _⟩ := hx y (by simp [hy])
          rw [show x = y by omega]; exact hy))
        simp only [List.getD_cons_zero, Nat.add_zero]
        rw [this]
        simp [List.getD_eq_getElem?_getD, show x.toNat < out.length by omega]
      | succ j =>
        have := e3 j (by simpa using hj)
        rw [List.getD_cons_succ, this]
        congr 1
        omega
    · rw [e4 y (fun z hz => hy z (by simp [hz]))]
      have hne : x.toNat ≠ y := hy x (by simp)
      simp [List.getD_eq_getElem?_getD, List.getElem?_set, hne]

theorem back_only (n : Nat) : ∀ (r : List Int) (i : Nat) (out out' : List Int) (seen : List Bool), seen.length = n → backGo n r i out seen = some out' → (∀ x ∈ r, 0 ≤ x ∧ x < n ∧ seen.getD x.toNat false = false) ∧ r.Nodup
  | [], _, _, _, _, _, _ => ⟨by simp, List.nodup_nil⟩
  | x :: r, i, out, out', seen, hs, h => by
    rw [backGo] at h
    split at h
    · cases h
    · next hc =>
      obtain ⟨h1, h2⟩ := back_only n r (i + 1) _ out' _ (by simpa using hs) h
      have hx : 0 ≤ x ∧ x < n ∧ seen.getD x.toNat false = false := by
        refine ⟨by omega, by omega, ?_⟩
        cases hb : seen.getD x.toNat false with
        | false => rfl
        | true => exact absurd (.inr (.inr hb)) hc
      have hnot : x ∉ r := fun hm => by
        have := (h1 x hm).2.2
        have hlt : x.toNat < seen.length := by omega
        simp [List.getD_eq_getElem?_getD, hlt] at this
      refine ⟨fun y hy => ?_, List.nodup_cons.2 ⟨hnot, h2⟩⟩
      rcases List.mem_cons.1 hy with rfl | hy
      · exact hx
      · obtain ⟨a0, a1, a2⟩ := h1 y hy
        refine ⟨a0, a1, ?_⟩
        have hne : x.toNat ≠ y.toNat := fun e => hnot (by rw [show x = y by omega]; exact hy)
        simpa [List.getD_eq_getElem?_getD, List.getElem?_set, hne] using a2

/-- An order has its way back. -/
theorem backOf_perm {l : List Int} {n : Nat} (hp : l.Perm (rangeI n)) : ∃ out, backOf l = some out ∧ ∀ j, j < n → out.getD (l.getD j 0).toNat 0 = (j : Int) := by
  have hl : l.length = n := by rw [hp.length_eq, length_rangeI]
  obtain ⟨out, h1, h2, h3, _⟩ := back_ok n l 0 (List.replicate n 0) (List.replicate n false) (fun x hx => by
    obtain ⟨a, b⟩ := mem_rangeI.1 (hp.mem_iff.1 hx)
    refine ⟨a, b, ?_⟩
    simp [List.getD_eq_getElem?_getD, show x.toNat < n by omega]) (hp.nodup_iff.2 (nodup_rangeI n)) (by simp) (by simp)
  refine ⟨out, by unfold backOf; rw [hl]; exact h1, fun j hj => ?_⟩
  have := h3 j (by omega)
  simpa using this
/-- There is one just where each number up to the length is there. -/
theorem backOf_iff (l : List Int) : (backOf l).isSome = true ↔ ∀ i : Nat, i < l.length → (i : Int) ∈ l := by
  constructor
  · intro h i hi
    cases hb : backOf l with
    | none => rw [hb] at h; cases h
    | some out =>
      obtain ⟨h1, h2⟩ := back_only l.length l 0 _ out (List.replicate l.length false) (by simp) hb
      have hp := pigeon l (rangeI l.length) h2 (fun x hx => mem_rangeI.2 ⟨(h1 x hx).1, (h1 x hx).2.1⟩) (by rw [length_rangeI]; exact Nat.le_refl _)
      exact hp.mem_iff.2 (mem_rangeI.2 ⟨Int.natCast_nonneg _, by omega⟩)
  · intro h
    have hp := pigeon (rangeI l.length) l (nodup_rangeI _) (fun x hx => by
      obtain ⟨a, b⟩ := mem_rangeI.1 hx
      have := h x.toNat (by omega)
      rwa [Int.toNat_of_nonneg a] at this) (by rw [length_rangeI]; exact Nat.le_refl _)
    obtain ⟨out, h1, _⟩ := backOf_perm hp.symm
    rw [h1]; rfl

end Go.Proofs.Ytabeolmfgmbfaaa

/- Numbers read from bytes: plain laws; no program in sight. -/
import Derived.Test.YtabeolmfgmbfaaaNum
namespace Go.Proofs.Ytabeolmfgmbfaaa
set_option linter.unusedVariables false
set_option linter.unusedSimpArgs false

/-- A number from bytes, behind i bytes that gave u: what it is (turned), and how many bytes it has. -/
def readN : Nat → Nat → List Int → Option (Nat × Nat)
  | _, _, [] => none
  | i, u, c :: r =>
    if 10 ≤ i then none
    else if (i = 9 ∧ 1 < c) ∨ (0 < i ∧ c = 0) then none
    else if c < 128 then some (u + c.toNat * 128 ^ i, i + 1)
    else readN (i + 1) (u + (c.toNat % 128) * 128 ^ i) r

/-- What is written is read. -/
theorem readN_vint (f : Nat) : ∀ (i u z : Nat) (rest : List Int), f + i = 9 → u + z * 128 ^ i < 18446744073709551616 → (0 < i → 0 < z) → readN i u (vint f z ++ rest) = some (u + z * 128 ^ i, i + (vint f z).length) := by
  induction f with
  | zero =>
    intro i u z rest hi hz h0
    obtain rfl : i = 9 := by omega
    have h1 : z ≤ 1 := by
      rcases Nat.lt_or_ge 1 z with h | h
      · have : 2 * 128 ^ 9 ≤ z * 128 ^ 9 := Nat.mul_le_mul_right _ h
        have e : 2 * 128 ^ 9 = 18446744073709551616 := by decide
        omega
      · exact h
    have h2 := h0 (by decide)
    simp only [vint, List.cons_append, List.nil_append, readN]
    rw [if_neg (by omega), if_neg (by omega), if_pos (by omega)]
    simp
  | succ f ih =>
    intro i u z rest hi hz h0
    by_cases h : 128 ≤ z
    · rw [vint_step f z h, List.cons_append, readN, if_neg (by omega), if_neg (by omega), if_neg (by omega)]
      have e1 : (((z % 128 + 128 : Nat) : Int).toNat % 128) = z % 128 := by omega
      have e2 : z * 128 ^ i = (z % 128) * 128 ^ i + (z / 128) * 128 ^ (i + 1) := by
        have h1 : (z / 128) * 128 ^ (i + 1) = (128 * (z / 128)) * 128 ^ i := by
          rw [Nat.pow_succ, Nat.mul_comm (128 ^ i) 128, ← Nat.mul_assoc, Nat.mul_comm (z / 128) 128]
        rw [h1, ← Nat.add_mul]
        congr 1
        omega
      rw [e1, ih (i + 1) _ (z / 128) rest (by omega) (by omega) (fun _ => by omega), e2]
      simp only [List.length_cons, Option.some.injEq, Prod.mk.injEq]
      omega
    · rw [vint_last (f + 1) z (by omega)]
      simp only [List.cons_append, List.nil_append, readN]
      rw [if_neg (by omega), if_neg (by omega), if_pos (by omega)]
      simp

theorem readN_num (k : Int) (hk : -9223372036854775808 ≤ k ∧ k ≤ 9223372036854775807) (rest : List Int) : readN 0 0 (numOf k ++ rest) = some (zig k, (numOf k).length) := by
  have h := readN_vint 9 0 0 (zig k) rest rfl (by have := zig_lt k hk; simpa using this) (fun h => by omega)
  unfold numOf
  simpa using h

/-- What is read is as it is written. -/
theorem readN_back : ∀ (l : List Int) (i u : Nat), (∀ x ∈ l, 0 ≤ x ∧ x ≤ 255) → u < 128 ^ i → i ≤ 9 → ∀ {v k}, readN i u l = some (v, k) →
    ∃ z, v = u + z * 128 ^ i ∧ i < k ∧ k ≤ i + l.length ∧ k ≤ 10 ∧ vint (9 - i) z = l.take (k - i) ∧ (0 < i → 0 < z) ∧ v < 18446744073709551616 := by
  intro l
  induction l with
  | nil => intro i u _ _ _ v k h; simp [readN] at h
  | cons c r ih =>
    intro i u hb hu hi v k h
    have hc := hb c (List.mem_cons_self ..)
    have hp : 128 ^ i ≤ 128 ^ 9 := Nat.pow_le_pow_right (by decide) hi
    rw [readN, if_neg (by omega)] at h
    split at h
    · cases h
    · rename_i hn
      split at h
      · rename_i hc8
        simp only [Option.some.injEq, Prod.mk.injEq] at h
        obtain ⟨rfl, rfl⟩ := h
        refine ⟨c.toNat, rfl, by omega, by simp, by omega, ?_, fun h0 => by omega, ?_⟩
        · rw [vint_last _ _ (by omega)]
          have : i + 1 - i = 1 := by omega
          rw [this]
          simp
          omega
        · have hm : c.toNat * 128 ^ i ≤ 127 * 128 ^ i := Nat.mul_le_mul_right _ (by omega)
          rcases Nat.lt_or_ge i 9 with h9 | h9
          · have h8 : 128 ^ (i + 1) ≤ 128 ^ 9 := Nat.pow_le_pow_right (by decide) h9
            rw [Nat.pow_succ] at h8
            have e : 128 ^ 9 = 9223372036854775808 := by decide
            omega
          · obtain rfl : i = 9 := by omega
            have h1 : c.toNat ≤ 1 := by
              by_cases h : 1 < c
              · exact absurd (.inl ⟨rfl, h⟩) hn
              · omega
            have hm1 : c.toNat * 128 ^ 9 ≤ 1 * 128 ^ 9 := Nat.mul_le_mul_right _ h1
            have e : 128 ^ 9 = 9223372036854775808 := by decide
            omega
      · rename_i hc8
        have hi9 : i ≠ 9 := by
          intro e
          apply hn
          exact .inl ⟨e, by omega⟩
        have hm : (c.toNat % 128) * 128 ^ i ≤ 127 * 128 ^ i := Nat.mul_le_mul_right _ (by omega)
        have h' := ih (i + 1) _ (fun x hx => hb x (List.mem_cons_of_mem _ hx)) (by rw [Nat.pow_succ]; omega) (by omega) h
        obtain ⟨z, hv, h1, h2, h3, h4, h5, h6⟩ := h'
        have hz := h5 (by omega)
        have e1 : (c.toNat % 128 + 128 * z) * 128 ^ i = (c.toNat % 128) * 128 ^ i + z * 128 ^ (i + 1) := by
          rw [Nat.add_mul, Nat.pow_succ, Nat.mul_comm 128 z, Nat.mul_assoc, Nat.mul_comm 128 (128 ^ i)]
        refine ⟨c.toNat % 128 + 128 * z, by rw [e1, hv]; omega, by omega, by simp; omega, h3, ?_, fun _ => by omega, h6⟩
        have e2 : 9 - i = (9 - (i + 1)) + 1 := by omega
        have e3 : k - i = (k - (i + 1)) + 1 := by omega
        rw [e2, vint_step _ _ (by omega), e3, List.take_succ_cons, ← h4]
        congr 1
        · omega
        · congr 1
          omega

end Go.Proofs.Ytabeolmfgmbfaaa

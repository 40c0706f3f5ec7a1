/- Numbers as bytes: plain laws; no program in sight. -/
import Derived.Test.YtabeolmfgmbfaaaMore
namespace Go.Proofs.Ytabeolmfgmbfaaa
open Go.RowKit
set_option linter.unusedVariables false
set_option linter.unusedSimpArgs false

theorem xor0_u64 (x : Int) (h : 0 ≤ x ∧ x < 18446744073709551616) : bits .xor .u64 x 0 = x := by
  show IntKind.u64.wrap (((BitVec.ofInt 64 x ^^^ BitVec.ofInt 64 0).toNat : Nat) : Int) = _
  have hz : BitVec.ofInt 64 0 = 0#64 := by decide
  rw [hz, BitVec.xor_zero, BitVec.toNat_ofInt]
  have e : IntKind.u64.wrap ((x % ((2 ^ 64 : Nat) : Int)).toNat : Int) = ((x % ((2 ^ 64 : Nat) : Int)).toNat : Int) % 18446744073709551616 := rfl
  rw [e]
  omega
theorem xor1_u64 (x : Int) (h : 0 ≤ x ∧ x < 18446744073709551616) : bits .xor .u64 x 18446744073709551615 = 18446744073709551615 - x := by
  show IntKind.u64.wrap (((BitVec.ofInt 64 x ^^^ BitVec.ofInt 64 18446744073709551615).toNat : Nat) : Int) = _
  have hz : BitVec.ofInt 64 18446744073709551615 = BitVec.allOnes 64 := by decide
  rw [hz, BitVec.xor_allOnes, BitVec.toNat_not, BitVec.toNat_ofInt]
  have e : ∀ y : Int, IntKind.u64.wrap y = y % 18446744073709551616 := fun _ => rfl
  rw [e]
  omega
theorem and127_u64 (x : Nat) (h : x < 18446744073709551616) : bits .and .u64 x 127 = ((x % 128 : Nat) : Int) := by
  show IntKind.u64.wrap (((BitVec.ofInt 64 x &&& BitVec.ofInt 64 127).toNat : Nat) : Int) = _
  have hb : (BitVec.ofInt 64 127).toNat = 2 ^ 7 - 1 := by decide
  rw [BitVec.toNat_and, hb, Nat.and_two_pow_sub_one_eq_mod, BitVec.toNat_ofInt]
  have e : ∀ y : Int, IntKind.u64.wrap y = y % 18446744073709551616 := fun _ => rfl
  rw [e]
  omega
theorem or128_u8 (x : Nat) (h : x < 128) : bits .or .u8 x 128 = ((x + 128 : Nat) : Int) := by
  have : ∀ x : Fin 128, bits .or .u8 (x.val : Int) 128 = ((x.val + 128 : Nat) : Int) := by decide
  exact this ⟨x, h⟩

/-- A number, turned so that those near 0 are small. -/
def zig (k : Int) : Nat := if 0 ≤ k then (2 * k).toNat else (-(k + 1) * 2 + 1).toNat
theorem zig_lt (k : Int) (h : -9223372036854775808 ≤ k ∧ k ≤ 9223372036854775807) : zig k < 18446744073709551616 := by
  unfold zig
  split <;> omega
/-- Seven bits a byte, the lowest first. -/
def vint : Nat → Nat → List Int
  | 0, u => [(u : Int)]
  | f + 1, u => if 128 ≤ u then ((u % 128 + 128 : Nat) : Int) :: vint f (u / 128) else [(u : Int)]
def numOf (k : Int) : List Int := vint 9 (zig k)
theorem vint_step (f u : Nat) (h : 128 ≤ u) : vint (f + 1) u = ((u % 128 + 128 : Nat) : Int) :: vint f (u / 128) := by rw [vint, if_pos h]
theorem vint_last (f u : Nat) (h : u < 128) : vint f u = [(u : Int)] := by
  cases f with
  | zero => rfl
  | succ f => rw [vint, if_neg (by omega)]
theorem vint_length (f : Nat) : ∀ u, 1 ≤ (vint f u).length ∧ (vint f u).length ≤ f + 1 := by
  induction f with
  | zero => intro u; exact ⟨Nat.le_refl _, Nat.le_refl _⟩
  | succ f ih =>
    intro u
    by_cases h : 128 ≤ u
    · rw [vint_step f u h]
      have := ih (u / 128)
      simp only [List.length_cons]
      omega
    · rw [vint_last (f + 1) u (by omega)]
      simp
theorem vint_byte (f : Nat) : ∀ u, u < 128 ^ (f + 1) → ∀ x ∈ vint f u, 0 ≤ x ∧ x ≤ 255 := by
  induction f with
  | zero =>
    intro u h x hx
    simp [vint] at hx
    subst hx
    simp at h
    omega
  | succ f ih =>
    intro u h x hx
    by_cases hu : 128 ≤ u
    · rw [vint_step f u hu] at hx
      rcases List.mem_cons.1 hx with rfl | hx
      · omega
      · refine ih (u / 128) ?_ x hx
        rw [Nat.pow_succ] at h
        omega
    · rw [vint_last (f + 1) u (by omega)] at hx
      simp at hx
      omega
theorem numOf_length (k : Int) : 1 ≤ (numOf k).length ∧ (numOf k).length ≤ 10 := vint_length 9 _
theorem numOf_byte (k : Int) (h : -9223372036854775808 ≤ k ∧ k ≤ 9223372036854775807) : ∀ x ∈ numOf k, 0 ≤ x ∧ x ≤ 255 :=
  vint_byte 9 _ (Nat.lt_of_lt_of_le (zig_lt k h) (by decide))
/-- Bytes, as cells. -/
def bytesV (l : List Int) : List Value := l.map (Value.int .u8)
theorem bytesV_append (a b : List Int) : bytesV (a ++ b) = bytesV a ++ bytesV b := List.map_append
theorem bytesV_length (a : List Int) : (bytesV a).length = a.length := List.length_map ..

end Go.Proofs.Ytabeolmfgmbfaaa

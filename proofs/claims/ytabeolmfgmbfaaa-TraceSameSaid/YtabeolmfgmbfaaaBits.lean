/- Bits of numbers that are read: plain laws. -/
import Derived.Test.YtabeolmfgmbfaaaRead
namespace Go.Proofs.Ytabeolmfgmbfaaa
open Go.RowKit
set_option linter.unusedVariables false
set_option linter.unusedSimpArgs false

theorem or_add_u64 (u y : Nat) (i : Nat) (hu : u < 2 ^ i) (h : u + y * 2 ^ i < 18446744073709551616) : bits .or .u64 (u : Int) ((y * 2 ^ i : Nat) : Int) = ((u + y * 2 ^ i : Nat) : Int) := by
  show IntKind.u64.wrap (((BitVec.ofInt 64 (u : Int) ||| BitVec.ofInt 64 ((y * 2 ^ i : Nat) : Int)).toNat : Nat) : Int) = _
  rw [BitVec.ofInt_natCast, BitVec.ofInt_natCast, BitVec.toNat_or, BitVec.toNat_ofNat, BitVec.toNat_ofNat, Nat.mod_eq_of_lt (by omega), Nat.mod_eq_of_lt (by omega)]
  have e : ∀ y : Int, IntKind.u64.wrap y = y % 18446744073709551616 := fun _ => rfl
  rw [Nat.or_comm, ← Nat.shiftLeft_eq, ← Nat.shiftLeft_add_eq_or_of_lt hu, e, Nat.shiftLeft_eq]
  omega
set_option maxRecDepth 10000 in
theorem and127_u8 (x : Int) (h : 0 ≤ x ∧ x ≤ 255) : bits .and .u8 x 127 = x % 128 := by
  have : ∀ x : Fin 256, bits .and .u8 (x.val : Int) 127 = (x.val : Int) % 128 := by decide
  have := this ⟨x.toNat, by omega⟩
  simpa [Int.toNat_of_nonneg h.1] using this
theorem and1_u64 (x : Nat) (h : x < 18446744073709551616) : bits .and .u64 x 1 = ((x % 2 : Nat) : Int) := by
  show IntKind.u64.wrap (((BitVec.ofInt 64 x &&& BitVec.ofInt 64 1).toNat : Nat) : Int) = _
  have hb : (BitVec.ofInt 64 1).toNat = 2 ^ 1 - 1 := by decide
  rw [BitVec.toNat_and, hb, Nat.and_two_pow_sub_one_eq_mod, BitVec.toNat_ofInt]
  have e : ∀ y : Int, IntKind.u64.wrap y = y % 18446744073709551616 := fun _ => rfl
  rw [e]
  omega
/-- What a turned number was. -/
def unzig (v : Nat) : Int := if v % 2 = 0 then ((v / 2 : Nat) : Int) else -((v / 2 : Nat) : Int) - 1
theorem unzig_zig (k : Int) : unzig (zig k) = k := by
  unfold unzig zig
  split <;> split <;> omega
theorem zig_unzig (v : Nat) : zig (unzig v) = v := by
  unfold unzig zig
  split <;> split <;> omega
theorem unzig_range (v : Nat) (h : v < 18446744073709551616) : -9223372036854775808 ≤ unzig v ∧ unzig v ≤ 9223372036854775807 := by
  unfold unzig
  split <;> omega
theorem xor0_i64 (x : Int) (h : 0 ≤ x ∧ x ≤ 9223372036854775807) : bits .xor .i64 x 0 = x := by
  show IntKind.i64.wrap (((BitVec.ofInt 64 x ^^^ BitVec.ofInt 64 0).toNat : Nat) : Int) = _
  have hz : BitVec.ofInt 64 0 = 0#64 := by decide
  rw [hz, BitVec.xor_zero, BitVec.toNat_ofInt, IntKind.wrap_i64]
  omega
theorem xor1_i64 (x : Int) (h : 0 ≤ x ∧ x ≤ 9223372036854775807) : bits .xor .i64 x (-1) = -x - 1 := by
  show IntKind.i64.wrap (((BitVec.ofInt 64 x ^^^ BitVec.ofInt 64 (-1)).toNat : Nat) : Int) = _
  have hz : BitVec.ofInt 64 (-1) = BitVec.allOnes 64 := by decide
  rw [hz, BitVec.xor_allOnes, BitVec.toNat_not, BitVec.toNat_ofInt, IntKind.wrap_i64]
  omega

/-- One byte more of a number. -/
theorem or_at (v : Nat) (x : Int) (j K : Nat) (hK : 2 ^ (7 * j) = K) (hv : v < 2 ^ (7 * j)) (hx : 0 ≤ x ∧ x ≤ 255) (h : v + (x.toNat % 128) * K < 18446744073709551616) : bits .or .u64 (v : Int) (x % 128 * (K : Int)) = ((v + (x.toNat % 128) * K : Nat) : Int) := by
  subst hK
  rw [← or_add_u64 v (x.toNat % 128) (7 * j) hv h]
  congr 1
  rw [Int.natCast_mul]
  congr 1
  omega
/-- int(u>>1) ^ -int(u&1) -/
theorem unzig_bits (v : Nat) (h : v < 18446744073709551616) : bits .xor .i64 ((v : Int) / 2) (-((v : Int) % 2)) = unzig v := by
  unfold unzig
  by_cases e : v % 2 = 0
  · rw [if_pos e, show -((v : Int) % 2) = 0 from by omega, xor0_i64 _ (by omega)]
    omega
  · rw [if_neg e, show -((v : Int) % 2) = -1 from by omega, xor1_i64 _ (by omega)]
    omega

end Go.Proofs.Ytabeolmfgmbfaaa

/- 64-bit words as Go's numbers. No condition but sizes. -/
import Derived.Test.YtleoeccjnchclaaGreatDoorZaa
import Derived.WalkKit
import Derived.WalkSpells
import Derived.Lib.Hide
namespace Go.Proofs.YtleoeccjnchclaaGreatDoor
open Go.RowKit

/-- a word as Go's number -/
def wd (u : UInt64) : Int := u.toNat
def u64 (u : UInt64) : Value := .int .u64 (wd u)
theorem wd_nonneg (a : UInt64) : 0 ≤ wd a := by unfold wd; omega
theorem wd_lt (a : UInt64) : wd a < 18446744073709551616 := by unfold wd; have := a.toNat_lt; omega
theorem wd_inj {a b : UInt64} (h : wd a = wd b) : a = b := by
  unfold wd at h; exact UInt64.toNat_inj.1 (by omega)
theorem wd_eq (a b : UInt64) : (wd a = wd b) ↔ a = b := ⟨wd_inj, fun h => by rw [h]⟩
theorem wd_beq (a b : UInt64) : (wd a == wd b) = (a == b) := by
  rw [Bool.eq_iff_iff]; simp [wd_eq]
theorem wd_xor (a b : UInt64) : bits .xor .u64 (wd a) (wd b) = wd (a ^^^ b) := by
  unfold wd; rw [bits_xor_u64_nat _ _ a.toNat_lt b.toNat_lt, UInt64.toNat_xor]
theorem wd_mul (a b : UInt64) : IntKind.u64.wrap (wd a * wd b) = wd (a * b) := by
  unfold wd; rw [IntKind.wrap_u64, UInt64.toNat_mul]; rfl
theorem wd_lit (n : Nat) (h : n < 18446744073709551616) : wd (UInt64.ofNat n) = n := by
  unfold wd; rw [UInt64.toNat_ofNat']; have : n % 2 ^ 64 = n := Nat.mod_eq_of_lt h; rw [this]
theorem wd_byte (b : UInt8) : IntKind.u64.wrap (b.toNat : Int) = wd b.toUInt64 := by
  unfold wd; rw [IntKind.wrap_u64, UInt8.toNat_toUInt64]; have := b.toNat_lt; omega
theorem wd_shr32 (a : UInt64) : wd a / (4294967296 : Int) = wd (a >>> 32) := by
  unfold wd; rw [UInt64.toNat_shiftRight]; simp [Nat.shiftRight_eq_div_pow]
theorem wd_shr29 (a : UInt64) : wd a / (536870912 : Int) = wd (a >>> 29) := by
  unfold wd; rw [UInt64.toNat_shiftRight]; simp [Nat.shiftRight_eq_div_pow]
theorem val_u64 {a b : Int} (h : a = b) : Value.int .u64 a = Value.int .u64 b := by rw [h]
theorem ret_u64 {a b : Int} (h : a = b) : Ending.returned (.int .u64 a) = .returned (.int .u64 b) := by rw [h]

/-- 'h & (n-1)' at a power of two -/
theorem wd_and_mask (h : UInt64) (n k : Nat) (hn : n = 2 ^ k) (hk : k < 63) : bits .and .u64 (wd h) (IntKind.u64.wrap ((n : Int) - 1)) = ((h.toNat % n : Nat) : Int) := by
  have hpos : 0 < n := by rw [hn]; exact Nat.two_pow_pos k
  have hlt : n < 18446744073709551616 := by rw [hn]; exact Nat.lt_of_lt_of_le (Nat.pow_lt_pow_right (by decide) hk) (by decide)
  have e : IntKind.u64.wrap ((n : Int) - 1) = ((n - 1 : Nat) : Int) := by rw [IntKind.wrap_u64]; omega
  rw [e]
  unfold wd
  rw [u64_and_nat _ _ h.toNat_lt (by omega), hn, Nat.and_two_pow_sub_one_eq_mod]
end Go.Proofs.YtleoeccjnchclaaGreatDoor

/- The walk of the document's Hash. -/
import Derived.Test.YthiamkfghnopgaaHash
import Derived.Deep.Light
namespace Go.Proofs.Ythiamkfghnopgaa
open Go.RowKit

theorem tmod_nonneg (x m : Int) (h : 0 ≤ x) : x.tmod m = x % m := Int.tmod_eq_emod_of_nonneg h
theorem times_arith (x y : Int) (hx : 0 ≤ x) (hy : 0 ≤ y) :
    IntKind.u64.wrap (IntKind.u64.wrap (x.tmod 4294967296 * y.tmod 4294967296) + IntKind.u64.wrap ((IntKind.u64.wrap (IntKind.u64.wrap (x / 4294967296 * y.tmod 4294967296) +
      IntKind.u64.wrap (x.tmod 4294967296 * (y / 4294967296)))).tmod 4294967296 * 4294967296)) = IntKind.u64.wrap (x * y) := by
  rw [tmod_nonneg _ _ hx, tmod_nonneg _ _ hy]
  simp only [IntKind.wrap_u64]
  rw [tmod_nonneg _ _ (by omega)]
  have e : x * y = (x / 4294967296 * (y / 4294967296)) * 18446744073709551616 + (x / 4294967296 * (y % 4294967296) + x % 4294967296 * (y / 4294967296)) * 4294967296 + x % 4294967296 * (y % 4294967296) := by
    have hx' := Int.mul_ediv_add_emod x 4294967296
    have hy' := Int.mul_ediv_add_emod y 4294967296
    generalize x / 4294967296 = xh at *; generalize x % 4294967296 = xl at *
    generalize y / 4294967296 = yh at *; generalize y % 4294967296 = yl at *
    subst hx'; subst hy'
    grind
  rw [e]
  generalize x / 4294967296 * (y / 4294967296) = p4
  generalize x / 4294967296 * (y % 4294967296) = p2
  generalize x % 4294967296 * (y / 4294967296) = p3
  generalize x % 4294967296 * (y % 4294967296) = p1
  omega
theorem wd_quo (a : UInt64) (m : Int) (hm : 0 < m) : IntKind.u64.wrap ((wd a).tdiv m) = wd a / m := by
  rw [Int.tdiv_eq_ediv_of_nonneg (wd_nonneg a), IntKind.wrap_u64]
  have h1 := wd_lt a
  have h2 := wd_nonneg a
  have h3 : wd a / m ≤ wd a := Int.ediv_le_self _ h2
  have h4 : 0 ≤ wd a / m := Int.ediv_nonneg h2 (by omega)
  omega
set_option maxHeartbeats 400000 in
theorem times_any (x y : Int) (a b : UInt64) (hx : x = wd a) (hy : y = wd b) (w : World) :
    Calls Try.prog 21 #[.int .u64 x, .int .u64 y] w fun e w' => e = .returned (.int .u64 (wd (a * b))) ∧ w = w' := by
  have X := Lib.hid hx; clear hx
  have Y := Lib.hid hy; clear hy
  go_enter Try.func21, Try.ntmps21
  go_wp2
  go_ret
  go_light
  refine ⟨ret_u64 ?_, rfl⟩
  rw [X.out, Y.out, times_arith _ _ (wd_nonneg _) (wd_nonneg _), wd_mul]

set_option maxHeartbeats 400000 in
theorem refHash_any (seed : UInt64) (s : ByteArray) (w : World) (hs : s.size ≤ maxLen) :
    Calls Try.prog 10 #[.int .u64 (wd seed), .string s] w fun e w' => e = .returned (.int .u64 (wd (hash seed s.data.toList))) ∧ w = w' := by
  unfold maxLen at hs
  go_enter Try.func10, Try.ntmps10
  go_wp2
  go_loop [5, 11] (fun h i => ∃ k : Nat, k ≤ s.size ∧ i = .int .i64 k ∧ h = .int .u64 (wd (hfold (14695981039346656037 ^^^ seed) (s.data.toList.take k)))) (fun _ i => s.size - (intOf i).toNat)
  case atStart => exact ⟨0, Nat.zero_le _, rfl, val_u64 (h_start seed)⟩
  case round =>
    obtain ⟨k, hk, rfl, rfl⟩ := hrel
    by_cases hlt : k < s.size
    · go_wp2_with fail
      refine (times_any _ _ (hfold (14695981039346656037 ^^^ seed) (s.data.toList.take k) ^^^ s[k].toUInt64) 1099511628211 (by rw [← wd_xor, ← wd_byte]) rfl _).mono ?_
      rintro e w' ⟨rfl, rfl⟩
      go_wp2
      go_round
      case rel => exact ⟨k + 1, by omega, by go_num, by rw [take_snoc s k hlt, hfold_snoc, hstep]⟩
      case measure => simp [intOf]; omega
    · have hall : s.data.toList.take k = s.data.toList := List.take_of_length_le (by simp; omega)
      have HA := Lib.hid hall; clear hall
      go_wp2_with fail
      refine (times_any _ _ (hfold (14695981039346656037 ^^^ seed) (s.data.toList.take k) ^^^ (hfold (14695981039346656037 ^^^ seed) (s.data.toList.take k) >>> 32)) 11400714819323198485 (by rw [wd_quo _ _ (by decide), wd_shr32, wd_xor]) rfl _).mono ?_
      rintro e w' ⟨rfl, rfl⟩
      go_wp2
      go_ret
      go_light
      refine ⟨ret_u64 ?_, rfl⟩
      rw [wd_quo _ _ (by decide), wd_shr29, wd_xor, HA.out]; rfl
end Go.Proofs.Ythiamkfghnopgaa

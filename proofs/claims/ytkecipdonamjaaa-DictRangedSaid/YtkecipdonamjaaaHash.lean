/- The walk of draw.Hash: it returns the hash, and leaves the world alone. -/
import Derived.Test.YtkecipdonamjaaaRows
import Derived.Test.YtkecipdonamjaaaWord
import Derived.WalkKit
import Derived.WalkSpells
import Derived.Lib.Hide
namespace Go.Proofs.Ytkecipdonamjaaa
open Go.RowKit

theorem h_start (seed : UInt64) : bits .xor .u64 14695981039346656037 (wd seed) = wd (14695981039346656037 ^^^ seed) := by
  rw [← wd_xor]; rfl
theorem h_mul (a : UInt64) : IntKind.u64.wrap (wd a * 1099511628211) = wd (a * 1099511628211) := by
  rw [← wd_mul]; rfl
theorem h_mul2 (a : UInt64) : IntKind.u64.wrap (wd a * 11400714819323198485) = wd (a * 11400714819323198485) := by
  rw [← wd_mul]; rfl
theorem take_snoc (s : ByteArray) (k : Nat) (h : k < s.size) : s.data.toList.take (k + 1) = s.data.toList.take k ++ [s[k]] := by
  rw [List.take_succ_eq_append_getElem (by simpa using h)]; rfl
theorem h_round (h : UInt64) (s : ByteArray) (k : Nat) (hk : k < s.size) :
    IntKind.u64.wrap (bits .xor .u64 (wd (hfold h (s.data.toList.take k))) (IntKind.u64.wrap (s[k].toNat : Int)) * 1099511628211) = wd (hfold h (s.data.toList.take (k + 1))) := by
  rw [wd_byte, wd_xor, h_mul, take_snoc s k hk, hfold_snoc, hstep]
theorem h_end (h : UInt64) : bits .xor .u64 (IntKind.u64.wrap (bits .xor .u64 (wd h) (wd h / 4294967296) * 11400714819323198485)) (IntKind.u64.wrap (bits .xor .u64 (wd h) (wd h / 4294967296) * 11400714819323198485) / 536870912) = wd (hfin (hmid h)) := by
  rw [wd_shr32, wd_xor, h_mul2, wd_shr29, wd_xor, hfin, hmid]
set_option maxHeartbeats 400000 in
theorem hash_any (seed : UInt64) (s : ByteArray) (w : World) (hs : s.size ≤ maxLen) :
    Calls Try.prog 31 #[.int .u64 (wd seed), .string s] w fun e w' => e = .returned (.int .u64 (wd (hash seed s.data.toList))) ∧ w = w' := by
  unfold maxLen at hs
  go_enter Try.func31, Try.ntmps31
  go_wp2
  go_loop [5, 11] (fun h i => ∃ k : Nat, k ≤ s.size ∧ i = .int .i64 k ∧ h = .int .u64 (wd (hfold (14695981039346656037 ^^^ seed) (s.data.toList.take k)))) (fun _ i => s.size - (intOf i).toNat)
  case atStart => exact ⟨0, Nat.zero_le _, rfl, val_u64 (h_start seed)⟩
  case round =>
    obtain ⟨k, hk, rfl, rfl⟩ := hrel
    by_cases hlt : k < s.size
    · go_wp2
      all_goals
        go_round
        case rel => exact ⟨k + 1, by omega, by go_num, val_u64 (h_round _ s k hlt)⟩
        case measure => simp [intOf]; omega
    · have hall : s.data.toList.take k = s.data.toList := List.take_of_length_le (by simp; omega)
      have HA := Lib.hid hall; clear hall
      go_wp2
      go_ret
      refine ⟨ret_u64 ?_, rfl⟩
      rw [HA.out]
      exact h_end _
end Go.Proofs.Ytkecipdonamjaaa

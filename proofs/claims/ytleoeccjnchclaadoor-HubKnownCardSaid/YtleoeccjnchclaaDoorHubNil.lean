/- No hub: what its calls tell. No condition. -/
import Derived.Test.YtleoeccjnchclaaDoorHubDuo
namespace Go.Proofs.YtleoeccjnchclaaDoor
open Go.RowKit
theorem nilListen_any (w : World) (s : Int) (k : ByteArray) : Calls Tryd.prog 20 #[.pointer none, .int .i64 s, .string k] w fun e w' => e = .returned (.tuple #[.int .i64 0, .int .i64 1]) ∧ w = w' := by
  go_enter Tryd.func20, Tryd.ntmps20
  go_wp2
  go_ret2
  exact ⟨rfl, rfl⟩
theorem nilLeave_any (w : World) (s : Int) (k : ByteArray) : Calls Tryd.prog 12 #[.pointer none, .int .i64 s, .string k] w fun e w' => e = .returned (.int .i64 0) ∧ w = w' := by
  go_enter Tryd.func12, Tryd.ntmps12
  go_wp2
  go_ret
  exact ⟨rfl, rfl⟩
theorem nilTell_any (w : World) (k t : ByteArray) : Calls Tryd.prog 15 #[.pointer none, .string k, .string t] w fun e w' => e = .returned (.slice none 0 0) ∧ w = w' := by
  go_enter Tryd.func15, Tryd.ntmps15
  go_wp2
  go_ret
  exact ⟨rfl, rfl⟩
theorem nilCount_any (w : World) (k : ByteArray) : Calls Tryd.prog 19 #[.pointer none, .string k] w fun e w' => e = .returned (.int .i64 0) ∧ w = w' := by
  go_enter Tryd.func19, Tryd.ntmps19
  go_wp2
  go_ret
  exact ⟨rfl, rfl⟩
theorem nilChannels_any (w : World) (s : Int) : Calls Tryd.prog 9 #[.pointer none, .int .i64 s] w fun e w' => e = .returned (.slice none 0 0) ∧ w = w' := by
  go_enter Tryd.func9, Tryd.ntmps9
  go_wp2
  go_ret
  exact ⟨rfl, rfl⟩
theorem nilPatterns_any (w : World) (s : Int) : Calls Tryd.prog 10 #[.pointer none, .int .i64 s] w fun e w' => e = .returned (.slice none 0 0) ∧ w = w' := by
  go_enter Tryd.func10, Tryd.ntmps10
  go_wp2
  go_ret
  exact ⟨rfl, rfl⟩
theorem nilLike_any (w : World) (s : Int) (k : ByteArray) : Calls Tryd.prog 21 #[.pointer none, .int .i64 s, .string k] w fun e w' => e = .returned (.tuple #[.int .i64 0, .int .i64 1]) ∧ w = w' := by
  go_enter Tryd.func21, Tryd.ntmps21
  go_wp2
  go_ret2
  exact ⟨rfl, rfl⟩
theorem nilLeaveLike_any (w : World) (s : Int) (k : ByteArray) : Calls Tryd.prog 16 #[.pointer none, .int .i64 s, .string k] w fun e w' => e = .returned (.int .i64 0) ∧ w = w' := by
  go_enter Tryd.func16, Tryd.ntmps16
  go_wp2
  go_ret
  exact ⟨rfl, rfl⟩
theorem nilDrop_any (w : World) (s : Int) : Calls Tryd.prog 14 #[.pointer none, .int .i64 s] w fun e w' => (∃ v, e = .returned v) ∧ w = w' := by
  go_enter Tryd.func14, Tryd.ntmps14
  go_wp2
  refine bodyPost_ret (results_none rfl _ _ _) rfl ?_
  exact ⟨⟨_, rfl⟩, rfl⟩
end Go.Proofs.YtleoeccjnchclaaDoor

/- reply.Bulk. No condition. -/
import Derived.Test.YtleoeccjnchclaaDoorHubR
namespace Go.Proofs.YtleoeccjnchclaaDoor
open Go.RowKit
/-- a bulk's cells -/
def bulkC (s : ByteArray) : List Value := [.int .i64 4, .string s, .int .i64 0, .slice none 0 0]
theorem bulk_any (s : ByteArray) (w : World) : Calls Tryd.prog 32 #[.string s] w fun e w' => e = .returned (.agg #[.int .i64 4, .string s, .int .i64 0, .slice none 0 0]) ∧ w' = w.alloc (.cells #[.int .i64 4, .string s, .int .i64 0, .slice none 0 0] 39) := by
  go_enter Tryd.func32, Tryd.ntmps32
  go_wp2
  refine bodyPost_ret (v := .agg #[.int .i64 4, .string s, .int .i64 0, .slice none 0 0]) ?_ rfl ⟨rfl, rfl⟩
  simp [results, Tryd.results32, asAddr, go_sem]
end Go.Proofs.YtleoeccjnchclaaDoor

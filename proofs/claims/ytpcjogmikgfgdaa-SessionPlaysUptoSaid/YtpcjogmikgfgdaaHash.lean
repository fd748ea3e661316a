/- Words and texts, where no hash is asked for. No condition. -/
import Derived.Test.YtpcjogmikgfgdaaRows
import Derived.Test.YtpcjogmikgfgdaaWord
import Derived.WalkKit
import Derived.WalkSpells
import Derived.Lib.Hide
namespace Go.Proofs.Ytpcjogmikgfgdaa
open Go.RowKit
theorem take_snoc (s : ByteArray) (k : Nat) (h : k < s.size) : s.data.toList.take (k + 1) = s.data.toList.take k ++ [s[k]] := by
  rw [List.take_succ_eq_append_getElem (by simpa using h)]; rfl
end Go.Proofs.Ytpcjogmikgfgdaa

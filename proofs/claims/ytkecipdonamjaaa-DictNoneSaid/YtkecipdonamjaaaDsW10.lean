/- The walk of package dict's Sample at string. -/
import Derived.Test.YtkecipdonamjaaaDsW9
namespace Go.Proofs.Ytkecipdonamjaaa.Ds
open Go.RowKit

def sampV (M : DM) (r : Nat) : Value := if M.n = 0 then .tuple #[.string ⟨#[]⟩, .bool false] else .tuple #[.string (drawM M r), .bool true]
theorem old_of_n {M : DM} (h : Inv M) (hn : M.n ≠ 0) : M.old ≠ [] := by
  intro ho
  have hy : M.young = [] := by
    cases hy : M.young with
    | nil => rfl
    | cons a l => exact absurd ho (old_of_young h (by rw [hy]; simp))
  rw [h.count] at hn
  unfold entries at hn
  rw [ho, hy] at hn
  exact hn rfl
theorem opn_len (M : DM) : (opn M).length = M.old.length - M.at_ + M.young.length := by simp [opn]
theorem opn_old (M : DM) (i : Nat) (h : i < M.old.length - M.at_) : (opn M)[i]? = M.old[M.at_ + i]? := by
  unfold opn
  rw [List.getElem?_append_left (by simp; omega), List.getElem?_drop]
theorem opn_young (M : DM) (i : Nat) (h : ¬ i < M.old.length - M.at_) : (opn M)[i]? = M.young[i - (M.old.length - M.at_)]? := by
  unfold opn
  rw [List.getElem?_append_right (by simp; omega)]
  simp
theorem quot_rem (r T P : Nat) (hr : r < 18446744073709551616) : Value.int .u64 ((IntKind.u64.wrap ((r : Int) / (T : Int))).tmod P) = Value.int .u64 ((r / T % P : Nat) : Int) := by
  have h : r / T < 18446744073709551616 := Nat.lt_of_le_of_lt (Nat.div_le_self _ _) hr
  have e : ((r : Int) / (T : Int)) = ((r / T : Nat) : Int) := by rw [Int.natCast_ediv]
  rw [e]
  generalize r / T = q at *
  rw [IntKind.wrap_u64, Int.emod_eq_of_lt (by omega) (by omega)]
  rfl
end Go.Proofs.Ytkecipdonamjaaa.Ds

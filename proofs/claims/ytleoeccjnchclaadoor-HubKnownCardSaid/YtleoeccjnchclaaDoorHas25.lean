/- pantrylaw25's has. No condition. -/
import Derived.Test.YtleoeccjnchclaaDoorSame25
namespace Go.Proofs.YtleoeccjnchclaaDoor
open Go.RowKit
theorem has25_any (w : World) (v : Value) (l : List ByteArray) (x : ByteArray) (h : RdC w 1 v l.length (l.map .string)) (hl : l.length ≤ 1048576) :
    Calls Tryd.prog 13 #[v, .string x] w fun e w' => e = .returned (.int .i64 (if x ∈ l then 1 else 0)) ∧ w = w' := by
  have H := Lib.hid h
  obtain ⟨-, a, c, rfl, -⟩ := h
  go_enter Tryd.func13, Tryd.ntmps13
  go_wp2
  go_loopw [9] (fun i wr => ∃ k : Nat, i = .int .i64 k ∧ k ≤ l.length ∧ w = wr ∧ Hid (∀ j, j < k → l[j]? ≠ some x)) (fun i _ => l.length - (intOf i).toNat)
  case atStart => exact ⟨0, rfl, by omega, rfl, fun j hj => absurd hj (by omega)⟩
  case round =>
    obtain ⟨k, rfl, hk, rfl, HN⟩ := hrel
    by_cases hlt : k < l.length
    · obtain ⟨g, off, rfl, ct⟩ := texts_at H.out k hlt
      obtain ⟨y, hy⟩ : ∃ y, l[k] = y := ⟨_, rfl⟩
      rw [hy] at ct
      have b0 : (0 : Int) ≤ (k : Int) := by omega
      have b1 : (k : Int) < (l.length : Int) := by omega
      have hq : (y.toList == x.toList) = decide (y = x) := str_beq _ _
      by_cases e : y = x
      · have hm : x ∈ l := by rw [← e, ← hy]; exact List.getElem_mem hlt
        rw [decide_eq_true e] at hq
        have HM := Lib.hid hm
        clear e hy hm
        go_wp2
        go_ret
        exact ⟨by first | rfl | (rw [if_pos HM.out]; rfl), rfl⟩
      · have HN2 : Hid (∀ j, j < k + 1 → l[j]? ≠ some x) := fun j hj => by
          by_cases hjk : j < k
          · exact HN.out j hjk
          · obtain rfl : j = k := by omega
            rw [List.getElem?_eq_getElem hlt, hy]
            exact fun h => e (Option.some.inj h)
        rw [decide_eq_false e] at hq
        clear e hy
        go_wp2
        go_roundw
        case rel => exact ⟨k + 1, by go_num, by omega, by first | trivial | rfl, HN2⟩
        case measure => simp [intOf]; omega
    · obtain rfl : k = l.length := by omega
      have hm : x ∉ l := fun h => by
        obtain ⟨i, hi⟩ := List.mem_iff_getElem?.1 h
        exact HN.out i (List.getElem?_eq_some_iff.1 hi).1 hi
      have HM := Lib.hid hm
      clear hm
      go_wp2
      go_ret
      exact ⟨by first | rfl | (rw [if_neg HM.out]; rfl), rfl⟩
end Go.Proofs.YtleoeccjnchclaaDoor

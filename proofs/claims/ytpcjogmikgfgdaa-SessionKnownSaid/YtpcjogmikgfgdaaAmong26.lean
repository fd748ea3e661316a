/- pantrylaw26's among: does a text stand in a list? No condition. -/
import Derived.Test.YtpcjogmikgfgdaaSMap
namespace Go.Proofs.Ytpcjogmikgfgdaa
open Go.RowKit
theorem inL_take (t : ByteArray) (l : List ByteArray) (k : Nat) (h : k < l.length) : inL t (l.take (k + 1)) = (inL t (l.take k) || decide (l[k] = t)) := by
  rw [List.take_succ_eq_append_getElem h, inL_snoc]
set_option maxHeartbeats 1000000 in
theorem among26_any (w : World) (v : Value) (l : List ByteArray) (t : ByteArray) (h : RdC w 1 v l.length (l.map .string)) :
    Calls Try.prog 33 #[.string t, v] w fun e w' => e = .returned (.bool (inL t l)) ∧ w = w' := by
  have hm := h.len
  unfold maxLen at hm
  have H := Lib.hid h
  obtain ⟨-, a, c, rfl, -⟩ := h
  go_enter Try.func33, Try.ntmps33
  go_wp2
  go_loop [9] (fun i => ∃ k : Nat, i = .int .i64 k ∧ k ≤ l.length ∧ Hid (inL t (l.take k) = false)) (fun i => l.length - (intOf i).toNat)
  case atStart => exact ⟨0, rfl, by omega, (show inL t _ = false from rfl)⟩
  case round =>
    obtain ⟨k, rfl, hk, HE⟩ := hrel
    by_cases hlt : k < l.length
    · have hb1 : (k : Int) < (l.length : Int) := by omega
      have hb0 : (0 : Int) ≤ (k : Int) := by omega
      obtain ⟨g1, o1, rfl, d1⟩ := texts_at H.out k hlt
      obtain ⟨x, hx⟩ : ∃ x, l[k] = x := ⟨_, rfl⟩
      rw [hx] at d1
      have hat := inL_take t l k hlt
      rw [hx, HE.out, Bool.false_or] at hat
      have HAT := Lib.hid hat
      have HX := Lib.hid hx
      clear hat hx
      by_cases hxt : x = t
      · have hq : (x.toList == t.toList) = true := by rw [str_beq]; simpa using hxt
        have hin : inL t l = true := inL_iff.2 (by rw [← hxt, ← HX.out]; exact List.getElem_mem _)
        have HIN := Lib.hid hin
        clear hin hxt
        go_wp2
        go_ret
        exact ⟨by rw [HIN.out]; rfl, rfl⟩
      · have hq : (x.toList == t.toList) = false := by rw [str_beq]; simpa using hxt
        have HN : Hid (inL t (l.take (k + 1)) = false) := by show _ = _; rw [HAT.out]; exact decide_eq_false hxt
        clear hxt
        go_wp2
        go_round
        case rel => exact ⟨k + 1, by go_num, by omega, HN⟩
        case measure => simp [intOf]; omega
    · obtain rfl : k = l.length := by omega
      have HIN : Hid (inL t l = false) := by have := HE.out; rwa [List.take_length] at this
      go_wp2
      go_ret
      exact ⟨by rw [HIN.out]; rfl, rfl⟩
end Go.Proofs.Ytpcjogmikgfgdaa

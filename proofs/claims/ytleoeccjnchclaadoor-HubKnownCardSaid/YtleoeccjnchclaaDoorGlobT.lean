/- The walks of strings.Trim at a star, and of glob.Match: whether a pattern means a name. No condition. -/
import Derived.Test.YtleoeccjnchclaaDoorGlobM
import Derived.Deep.QuietTactic
import Derived.BigQuiet
namespace Go.Proofs.YtleoeccjnchclaaDoor
open Go.RowKit

def mkS (l : Bytes) : ByteArray := ⟨l.toArray⟩
theorem bl_mk (l : Bytes) : bl (mkS l) = l := rfl
theorem mk_bl (s : ByteArray) (l : Bytes) (h : bl s = l) : s = mkS l := by
  subst h
  rfl
theorem mk_size (l : Bytes) : (mkS l).size = l.length := by simp [mkS, ByteArray.size]
def trR (l : Bytes) : Bytes := (l.reverse.dropWhile (· == 42)).reverse
def trL (l : Bytes) : Bytes := l.dropWhile (· == 42)
theorem dw_nil {l : Bytes} : l.dropWhile (· == 42) = [] ↔ ∀ x ∈ l, (x == 42) = true := by
  induction l with
  | nil => simp
  | cons a l ih =>
    by_cases h : a = 42
    · simp [h, ih]
    · simp [h]
theorem trim_nil (l : Bytes) : trL (trR l) = [] ↔ l.all (· == 42) = true := by
  unfold trL trR
  constructor
  · intro h
    by_cases hr : (l.reverse.dropWhile (· == 42)) = []
    · rw [dw_nil] at hr
      rw [List.all_eq_true]
      intro x hx
      exact hr x (List.mem_reverse.2 hx)
    · exfalso
      rw [dw_nil] at h
      have h1 := List.head_dropWhile_not (· == 42) hr
      have h2 := h ((l.reverse.dropWhile (· == 42)).head hr) (List.mem_reverse.2 (List.head_mem hr))
      rw [h2] at h1
      cases h1
  · intro h
    rw [List.all_eq_true] at h
    have hr : (l.reverse.dropWhile (· == 42)) = [] := by
      rw [dw_nil]
      intro x hx
      exact h x (List.mem_reverse.1 hx)
    rw [hr]; rfl
theorem trR_le (l : Bytes) : (trR l).length ≤ l.length := by
  unfold trR
  rw [List.length_reverse]
  have := (List.dropWhile_sublist (· == 42) (l := l.reverse)).length_le
  simpa using this
theorem trR_any (s : ByteArray) (w : World) (n : Nat) (hs : s.size < 4611686018427387904) :
    Calls Tryd.prog 36 #[.string s, .int .u8 42] (w.drewN n) fun e w' => e = .returned (.string (mkS (trR (bl s)))) ∧ ∃ m, w' = w.drewN m :=
  (trimRight_any s 42 (w.drewN n) hs).mono fun e w' ⟨⟨t, h1, _, h2⟩, h3⟩ => ⟨by rw [h1, mk_bl t _ h2]; rfl, n, h3.symm⟩
theorem trL_any (s : ByteArray) (w : World) (n : Nat) (hs : s.size < 4611686018427387904) :
    Calls Tryd.prog 35 #[.string s, .int .u8 42] (w.drewN n) fun e w' => e = .returned (.string (mkS (trL (bl s)))) ∧ ∃ m, w' = w.drewN m :=
  (trimLeft_any s 42 (w.drewN n) hs).mono fun e w' ⟨⟨t, h1, h2⟩, h3⟩ => ⟨by rw [h1, mk_bl t _ h2]; rfl, n, h3.symm⟩
def trimV (s : ByteArray) : Value := .string (if s.size = 0 then s else mkS (trL (trR (bl s))))
set_option maxRecDepth 100000 in
set_option maxHeartbeats 1000000 in
theorem trim_any (s : ByteArray) (w : World) (hs : s.size < 4611686018427387904) :
    Calls Tryd.prog 28 #[.string s, .string ⟨#[42]⟩] w fun e w' => e = .returned (trimV s) ∧ ∃ m, w' = w.drewN m := by
  unfold trimV
  by_cases h0 : s.size = 0
  · rw [if_pos h0]
    have hl : s.toList = [] := by
      rw [Go.ByteArray.toList_eq]
      exact List.length_eq_zero_iff.1 (by rw [show s.data.toList.length = s.size by simp]; exact h0)
    have hl2 : s.toList.isEmpty = true := by rw [hl]; rfl
    clear h0
    go_enter Tryd.func28, Tryd.ntmps28
    go_wp2
    go_ret
    exact ⟨rfl, 0, rfl⟩
  · rw [if_neg h0]
    have hl : s.toList.isEmpty = false := by
      rw [Go.ByteArray.toList_eq]
      cases hh : s.data.toList with
      | nil => exfalso; apply h0; have := congrArg List.length hh; simpa using this
      | cons a b => rfl
    have hle := trR_le (bl s)
    rw [bl_len] at hle
    have H1 := Lib.hid (fun n => trR_any s w n hs)
    have H2 := Lib.hid (fun n => trL_any (mkS (trR (bl s))) w n (by rw [mk_size]; omega))
    rw [bl_mk] at H2
    clear hle h0
    go_enter Tryd.func28, Tryd.ntmps28
    go_wp2
    go_quiet ((first | (go_at_call 36; exact H1.out _) | (go_at_call 35; exact H2.out _)))
    go_wp2
    go_ret
    exact ⟨rfl, nq, rfl⟩
end Go.Proofs.YtleoeccjnchclaaDoor

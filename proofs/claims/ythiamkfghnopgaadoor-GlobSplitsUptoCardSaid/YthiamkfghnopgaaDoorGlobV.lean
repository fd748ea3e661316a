/- What a text between stars means, in plain Lean. -/
import Derived.Test.YthiamkfghnopgaaDoorGlobL
namespace Go.Proofs.YthiamkfghnopgaaDoor
theorem anyTail_twice (f : Bytes → Bool) : anyTail (anyTail f) = anyTail f := by
  funext s
  induction s with
  | nil => rfl
  | cons x s ih =>
    show (anyTail f (x :: s) || anyTail (anyTail f) s) = anyTail f (x :: s)
    rw [ih]
    show ((f (x :: s) || anyTail f s) || anyTail f s) = (f (x :: s) || anyTail f s)
    rw [Bool.or_assoc, Bool.or_self]
def starsP (n : Nat) : Bytes := List.replicate n 42
theorem signs_starsP (n : Nat) (q : Bytes) : signs (starsP n ++ q) = List.replicate n .star ++ signs q := by
  induction n with
  | zero => rfl
  | succ n ih =>
    show signs (42 :: (starsP n ++ q)) = .star :: (List.replicate n .star ++ signs q)
    rw [signs_star, ih]
theorem means_starsP (n : Nat) (r : List Sg) : means (List.replicate (n + 1) .star ++ r) = anyTail (means r) := by
  induction n with
  | zero => rfl
  | succ n ih =>
    show anyTail (means (List.replicate (n + 1) .star ++ r)) = _
    rw [ih, anyTail_twice]
theorem any_empty (s : Bytes) : anyTail (means []) s = true := (anyTail_iff _ _).2 ⟨s.length, Nat.le_refl _, by rw [List.drop_length]; rfl⟩
theorem m_all (n : Nat) (s : Bytes) : means (signs (starsP (n + 1))) s = true := by
  have h := signs_starsP (n + 1) []
  rw [List.append_nil, signs_nil] at h
  rw [h, means_starsP, any_empty]
def here (t s : Bytes) : Bool := decide (s.take t.length = t)
theorem m_front (n : Nat) (t : Bytes) : means (signs (esc t ++ starsP (n + 1))) = here t := by
  funext s
  rw [signs_esc, means_ones]
  have h := m_all n (s.drop t.length)
  rw [h, Bool.and_true]; rfl
theorem m_mid (n m : Nat) (t s : Bytes) : means (signs (starsP (n + 1) ++ (esc t ++ starsP (m + 1)))) s = anyTail (here t) s := by
  rw [signs_starsP, means_starsP, m_front]
theorem m_front_all (n : Nat) (t s : Bytes) : means (signs (esc t ++ starsP (n + 1))) (t ++ s) = true := by
  rw [m_front]
  unfold here
  rw [List.take_left]; simp
theorem m_end_all (n : Nat) (t s : Bytes) : means (signs (starsP (n + 1) ++ esc t)) (s ++ t) = true := by
  have h := signs_esc t []
  rw [List.append_nil, signs_nil, List.append_nil] at h
  rw [signs_starsP, means_starsP, h]
  refine (anyTail_iff _ _).2 ⟨s.length, by simp, ?_⟩
  rw [List.drop_left, means_text]; simp
/-- does t stand in s at a place below i? -/
def std (s t : Bytes) (i : Nat) : Bool := (List.range i).any fun j => here t (s.drop j)
theorem std_zero (s t : Bytes) : std s t 0 = false := rfl
theorem std_succ (s t : Bytes) (i : Nat) : std s t (i + 1) = (std s t i || here t (s.drop i)) := by
  unfold std
  rw [List.range_succ, List.any_append]
  simp
theorem std_end (s t : Bytes) (i : Nat) (h : s.length < i + t.length) : std s t i = anyTail (here t) s := by
  rw [Bool.eq_iff_iff, anyTail_iff]
  unfold std here
  simp only [List.any_eq_true, List.mem_range, decide_eq_true_eq]
  constructor
  · rintro ⟨j, hj, hm⟩
    by_cases hjs : j ≤ s.length
    · exact ⟨j, hjs, hm⟩
    · rw [List.drop_eq_nil_of_le (by omega), List.take_nil] at hm
      refine ⟨0, Nat.zero_le _, ?_⟩
      rw [← hm]; rfl
  · rintro ⟨k, hk, hm⟩
    refine ⟨k, ?_, hm⟩
    have hl := congrArg List.length hm
    rw [List.length_take, List.length_drop] at hl
    omega
theorem plain_starsP (n : Nat) : plainO (starsP (n + 1)) = none := plainO_none 42 _ (.inl rfl)
theorem bl_app (a b : ByteArray) : bl (a ++ b) = bl a ++ bl b := by
  unfold bl
  simp [ByteArray.data_append]
theorem starsP_snoc (n : Nat) : starsP n ++ [42] = starsP (n + 1) := by
  unfold starsP
  rw [List.replicate_succ']
theorem here_slice (s t : ByteArray) (i : Nat) : ((s.extract i (i + t.size)).toList == t.toList) = here (bl t) ((bl s).drop i) := by
  have e : bl (s.extract i (i + t.size)) = ((bl s).drop i).take (bl t).length := by
    rw [bl_extract, bl_len, List.drop_take, Nat.add_sub_cancel_left]
  rw [Go.ByteArray.toList_eq, Go.ByteArray.toList_eq, Bool.eq_iff_iff, beq_iff_eq]
  unfold here
  rw [decide_eq_true_eq, ← e]
  exact Iff.rfl
end Go.Proofs.YthiamkfghnopgaaDoor

/- What the document's own row-by-row answer computes: which fronts of a name the signs so far can mean. Plain Lean. -/
import Derived.Test.YthiamkfghnopgaaDoorGlobL
namespace Go.Proofs.YthiamkfghnopgaaDoor
theorem means_star1 (s : Bytes) : means [.star] s = true := means_stars_all [.star] rfl (by simp) s
/-- a star more: the front itself, or the front one shorter -/
theorem fr_star (L : List Sg) (s : Bytes) (k : Nat) (hk : k + 1 ≤ s.length) : means (L ++ [.star]) (s.take (k + 1)) = (means L (s.take (k + 1)) || means (L ++ [.star]) (s.take k)) := by
  rw [Bool.eq_iff_iff, Bool.or_eq_true, means_append, means_append]
  simp only [means_star1, and_true, List.length_take]
  constructor
  · rintro ⟨i, h1, h2⟩
    rw [List.take_take] at h2
    by_cases hi : i = k + 1
    · subst hi; left; rw [Nat.min_self] at h2; exact h2
    · right; refine ⟨i, by omega, ?_⟩
      rw [List.take_take]
      rw [Nat.min_eq_left (by omega)] at h2 ⊢
      exact h2
  · rintro (h | ⟨i, h1, h2⟩)
    · refine ⟨k + 1, by omega, ?_⟩
      rw [List.take_take, Nat.min_self]; exact h
    · refine ⟨i, by omega, ?_⟩
      rw [List.take_take] at h2 ⊢
      rw [Nat.min_eq_left (by omega)] at h2 ⊢
      exact h2
theorem fr_star0 (L : List Sg) (s : Bytes) : means (L ++ [.star]) (s.take 0) = means L (s.take 0) := by
  rw [Bool.eq_iff_iff, means_append]
  simp only [means_star1, and_true, List.take_zero, List.take_nil, List.length_nil]
  constructor
  · rintro ⟨i, _, h⟩; exact h
  · intro h; exact ⟨0, Nat.le_refl _, h⟩
/-- a sign more that means one byte -/
theorem fr_set (L : List Sg) (P : UInt8 → Bool) (s : Bytes) (k : Nat) (hk : k < s.length) : means (L ++ [.set P]) (s.take (k + 1)) = (means L (s.take k) && P s[k]) := by
  rw [Bool.eq_iff_iff, Bool.and_eq_true, means_append]
  constructor
  · rintro ⟨i, h1, h2, h3⟩
    rw [List.length_take] at h1
    have hl : ((s.take (k + 1)).drop i).length = 1 := by
      cases hq : decide (((s.take (k + 1)).drop i).length = 1) with
      | true => exact of_decide_eq_true hq
      | false => rw [means_set_len P _ (of_decide_eq_false hq)] at h3; cases h3
    rw [List.length_drop, List.length_take] at hl
    have hi : i = k := by omega
    subst hi
    rw [List.take_take, Nat.min_eq_left (by omega)] at h2
    refine ⟨h2, ?_⟩
    have hd : (s.take (i + 1)).drop i = [s[i]] := by
      rw [List.take_succ_eq_append_getElem hk]
      have : (s.take i).length = i := by rw [List.length_take]; omega
      rw [List.drop_append, List.drop_of_length_le (by omega), this, Nat.sub_self]; rfl
    rw [hd, means_one] at h3
    exact h3
  · rintro ⟨h1, h2⟩
    refine ⟨k, by rw [List.length_take]; omega, ?_, ?_⟩
    · rw [List.take_take, Nat.min_eq_left (by omega)]; exact h1
    · have hd : (s.take (k + 1)).drop k = [s[k]] := by
        rw [List.take_succ_eq_append_getElem hk]
        have : (s.take k).length = k := by rw [List.length_take]; omega
        rw [List.drop_append, List.drop_of_length_le (by omega), this, Nat.sub_self]; rfl
      rw [hd, means_one]; exact h2
theorem fr_set0 (L : List Sg) (P : UInt8 → Bool) (s : Bytes) : means (L ++ [.set P]) (s.take 0) = false := by
  rw [Bool.eq_false_iff]
  intro h
  obtain ⟨i, _, _, h3⟩ := (means_append _ _ _).1 h
  rw [List.take_zero, List.drop_nil] at h3
  cases h3
theorem fr_nil (s : Bytes) (k : Nat) (hk : k ≤ s.length) : means [] (s.take k) = decide (k = 0) := by
  cases k with
  | zero => rfl
  | succ k =>
    cases s with
    | nil => simp at hk
    | cons x s => rfl
end Go.Proofs.YthiamkfghnopgaaDoor

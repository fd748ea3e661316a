/- The signs that pantrylaw03 writes: what each means, in plain Lean; What the document's own row-by-row answer computes: which fronts of a name the signs so far can mean. No condition but sizes. -/
import Derived.Test.YtleoeccjnchclaaGreatDoorZak
import Derived.Test.YtleoeccjnchclaaGreatDoorZac
import Derived.Laws.MakeOwn
import Derived.Laws.NewBlocks
import Derived.Deep.DeepAppendRoom
namespace Go.Proofs.YtleoeccjnchclaaGreatDoor

/-- what Go's 'means' tells of a sign, which is no star -/
def btw (a b x : UInt8) : Bool := decide (a ≤ x) && decide (x ≤ b) || decide (b ≤ x) && decide (x ≤ a)
def sgn (k : Int) (a b : UInt8) (o : Bytes) (x : UInt8) : Bool :=
  if k = 1 then true else if k = 3 then o.any (· == x) else if k = 4 then !(o.any (· == x)) else if k = 5 then btw a b x else if k = 6 then !(btw a b x) else a == x
def sgOf (k : Int) (a b : UInt8) (o : Bytes) : Sg := if k = 2 then .star else .set (sgn k a b o)
def writ (k : Int) (a b : UInt8) (o : Bytes) : Bytes :=
  if k = 1 then [63] else if k = 2 then [42] else if k = 3 then 91 :: (esc o ++ [93]) else if k = 4 then 91 :: 94 :: (esc o ++ [93])
  else if k = 5 then [91, 92, a, 45, 92, b, 93] else if k = 6 then [91, 94, 92, a, 45, 92, b, 93] else [92, a]

theorem within_two (a b x : UInt8) : within x (a, b) = btw a b x := by
  unfold within btw
  have hm : min a b = if a ≤ b then a else b := rfl
  have hx : max a b = if a ≤ b then b else a := rfl
  simp only [hm, hx]
  rw [Bool.eq_iff_iff]
  simp only [Bool.and_eq_true, Bool.or_eq_true, decide_eq_true_eq, UInt8.le_iff_toNat_le]
  split <;> omega
theorem within_one (b x : UInt8) : within x (b, b) = (b == x) := by
  rw [within_two, Bool.eq_iff_iff, beq_iff_eq]
  unfold btw
  simp only [Bool.and_eq_true, Bool.or_eq_true, decide_eq_true_eq, UInt8.le_iff_toNat_le, ← UInt8.toNat_inj]
  omega
theorem any_within (o : Bytes) (x : UInt8) : (o.map fun b => (b, b)).any (within x) = o.any (· == x) := by
  rw [List.any_map]; congr 1; funext b; exact within_one b x
theorem item_esc (b c : UInt8) (q : Bytes) (h : c ≠ 45) : item (92 :: b :: c :: q) = ((b, b), 2) := by
  cases q with
  | nil => rfl
  | cons d q =>
    show (if c = 45 ∧ d ≠ 93 then _ else _) = _
    rw [if_neg (fun e => h e.1)]; rfl
theorem its_esc (o q : Bytes) : its (esc o ++ 93 :: q) = (o.map fun b => (b, b), 2 * o.length) := by
  induction o with
  | nil => exact its_end q
  | cons b o ih =>
    have hi : item (esc (b :: o) ++ 93 :: q) = ((b, b), 2) := by
      cases o with
      | nil => exact item_esc b 93 q (by decide)
      | cons d o => exact item_esc b 92 (d :: (esc o ++ 93 :: q)) (by decide)
    have e : esc (b :: o) ++ 93 :: q = 92 :: (b :: (esc o ++ 93 :: q)) := rfl
    have h := its_cons 92 (b :: (esc o ++ 93 :: q)) (by decide)
    rw [← e, hi] at h
    rw [h]
    have hd : (esc (b :: o) ++ 93 :: q).drop 2 = esc o ++ 93 :: q := rfl
    simp only [hd, ih, List.map_cons, List.length_cons]
    congr 1; omega
theorem its_rng (a b : UInt8) (q : Bytes) : its (92 :: a :: 45 :: 92 :: b :: 93 :: q) = ([(a, b)], 5) := by
  have hi : item (92 :: a :: 45 :: 92 :: b :: 93 :: q) = ((a, b), 5) := rfl
  rw [its_cons 92 _ (by decide), hi]
  rfl
theorem set_plain (r q : Bytes) (l : List (UInt8 × UInt8)) (n : Nat) (hn : neg r = false) (hi : its r = (l, n)) (hl : n + 1 ≤ r.length) (hd : r.drop (n + 1) = q) :
    signs (91 :: r) = .set (fun x => l.any (within x)) :: signs q := by
  have hN : negN r = 0 := by unfold negN; rw [hn]; rfl
  rw [signs_set 91 r (by decide)]
  have hs : setAt r = (fun x => l.any (within x), n + 1) := by
    rw [setAt_eq, hN, List.drop_zero, hi, hn]
    simp only [Bool.bne_false, Nat.zero_add]
    rw [Nat.min_eq_left hl]
  have h1 : sign1 (91 :: r) = ((setAt r).1, 1 + (setAt r).2) := rfl
  rw [h1, hs]
  simp only
  rw [show 1 + (n + 1) = (n + 1) + 1 by omega, List.drop_succ_cons, hd]
theorem set_neg (r q : Bytes) (l : List (UInt8 × UInt8)) (n : Nat) (hi : its r = (l, n)) (hl : n + 1 ≤ r.length) (hd : r.drop (n + 1) = q) :
    signs (91 :: 94 :: r) = .set (fun x => !(l.any (within x))) :: signs q := by
  have hn : neg (94 :: r) = true := rfl
  have hN : negN (94 :: r) = 1 := rfl
  rw [signs_set 91 _ (by decide)]
  have hs : setAt (94 :: r) = (fun x => !(l.any (within x)), n + 2) := by
    rw [setAt_eq, hN, hn, show (94 :: r).drop 1 = r from rfl, hi]
    simp only [Bool.bne_true, List.length_cons]
    rw [show 1 + n + 1 = n + 2 by omega, Nat.min_eq_left (by omega)]
  have h1 : sign1 (91 :: 94 :: r) = ((setAt (94 :: r)).1, 1 + (setAt (94 :: r)).2) := rfl
  rw [h1, hs]
  simp only
  rw [show 1 + (n + 2) = (n + 1) + 1 + 1 by omega, List.drop_succ_cons, List.drop_succ_cons, hd]
theorem esc_drop (o q : Bytes) : (esc o ++ 93 :: q).drop (2 * o.length + 1) = q := by
  rw [← esc_len o, List.drop_append, List.drop_of_length_le (by omega), List.nil_append, show (esc o).length + 1 - (esc o).length = 1 by omega]
  rfl
theorem esc_neg (o q : Bytes) : neg (esc o ++ 93 :: q) = false := by cases o <;> rfl
/-- A sign as it is written means what it is to mean. -/
theorem signs_writ (k : Int) (a b : UInt8) (o q : Bytes) : signs (writ k a b o ++ q) = sgOf k a b o :: signs q := by
  unfold writ sgOf
  by_cases h1 : k = 1
  · subst h1
    simp only [if_pos, if_neg, reduceIte]
    show signs (63 :: q) = _
    rw [signs_set 63 q (by decide)]
    rfl
  by_cases h2 : k = 2
  · subst h2
    exact signs_star q
  by_cases h3 : k = 3
  · subst h3
    show signs (91 :: ((esc o ++ [93]) ++ q)) = _
    rw [List.append_assoc]
    show signs (91 :: (esc o ++ 93 :: q)) = _
    rw [set_plain _ q _ _ (esc_neg o q) (its_esc o q) (by simp [esc_len]) (esc_drop o q)]
    congr 2
    funext x
    exact any_within o x
  by_cases h4 : k = 4
  · subst h4
    show signs (91 :: 94 :: ((esc o ++ [93]) ++ q)) = _
    rw [List.append_assoc]
    show signs (91 :: 94 :: (esc o ++ 93 :: q)) = _
    rw [set_neg _ q _ _ (its_esc o q) (by simp [esc_len]) (esc_drop o q)]
    congr 2
    funext x
    rw [any_within o x]; rfl
  by_cases h5 : k = 5
  · subst h5
    show signs (91 :: (92 :: a :: 45 :: 92 :: b :: 93 :: q)) = _
    rw [set_plain _ q _ _ rfl (its_rng a b q) (by simp) rfl]
    congr 2
    funext x
    simp only [List.any_cons, List.any_nil, Bool.or_false, within_two]
    rfl
  by_cases h6 : k = 6
  · subst h6
    show signs (91 :: 94 :: (92 :: a :: 45 :: 92 :: b :: 93 :: q)) = _
    rw [set_neg _ q _ _ (its_rng a b q) (by simp) rfl]
    congr 2
    funext x
    simp only [List.any_cons, List.any_nil, Bool.or_false, within_two]
    rfl
  · simp only [if_neg h1, if_neg h2, if_neg h3, if_neg h4, if_neg h5, if_neg h6]
    show signs (92 :: a :: q) = _
    rw [signs_set 92 _ (by decide), sign1_lit' 92 _ (by decide) (by decide)]
    simp only [lit_esc2]
    congr 2
    funext x
    simp [sgn, h1, h3, h4, h5, h6]
theorem writ_len (k : Int) (a b : UInt8) (o : Bytes) : (writ k a b o).length ≤ 2 * o.length + 8 := by
  unfold writ
  repeat' split
  all_goals simp [esc_len]
  all_goals omega
def text (l : List Bytes) : Bytes := l.flatten
theorem gm_star (s : ByteArray) : means [.star] (bl s) = true := by
  have := means_stars_all [.star] rfl (by simp) (bl s)
  exact this
theorem means_one (P : UInt8 → Bool) (x : UInt8) : means [.set P] [x] = P x := by simp [means]
theorem means_set_len (P : UInt8 → Bool) (s : Bytes) (h : s.length ≠ 1) : means [.set P] s = false := by
  match s, h with
  | [], _ => rfl
  | [x], h => exact absurd rfl h
  | x :: y :: s, _ => simp [means]
end Go.Proofs.YtleoeccjnchclaaGreatDoor
namespace Go.Proofs.YtleoeccjnchclaaGreatDoor
theorem means_star1 (s : Bytes) : means [.star] s = true := means_stars_all [.star] rfl (by simp) s
/-- a star more: the front itself, or the front one shorter -/
theorem fr_star (L : List Sg) (s : Bytes) (k : Nat) (hk : k + 1 ≤ s.length) : means (L ++ [.star]) (s.take (k + 1)) = (means L (s.take (k + 1)) || means (L ++ [.star]) (s.take k)) := by
  rw [Bool.eq_iff_iff, Bool.or_eq_true, means_append, means_append]
  simp only [means_star1, and_true, List.length_take]
  constructor
  · rintro ⟨i, h1, h2⟩
    rw [List.take_take] at h2
    by_cases hi : i = k + 1
    · subst hi; left; rw [Nat.min_self] at h2; exact h2
    · right; refine ⟨i, by omega, ?_⟩
      rw [List.take_take]
      rw [Nat.min_eq_left (by omega)] at h2 ⊢
      exact h2
  · rintro (h | ⟨i, h1, h2⟩)
    · refine ⟨k + 1, by omega, ?_⟩
      rw [List.take_take, Nat.min_self]; exact h
    · refine ⟨i, by omega, ?_⟩
      rw [List.take_take] at h2 ⊢
      rw [Nat.min_eq_left (by omega)] at h2 ⊢
      exact h2
theorem fr_star0 (L : List Sg) (s : Bytes) : means (L ++ [.star]) (s.take 0) = means L (s.take 0) := by
  rw [Bool.eq_iff_iff, means_append]
  simp only [means_star1, and_true, List.take_zero, List.take_nil, List.length_nil]
  constructor
  · rintro ⟨i, _, h⟩; exact h
  · intro h; exact ⟨0, Nat.le_refl _, h⟩
/-- a sign more that means one byte -/
theorem fr_set (L : List Sg) (P : UInt8 → Bool) (s : Bytes) (k : Nat) (hk : k < s.length) : means (L ++ [.set P]) (s.take (k + 1)) = (means L (s.take k) && P s[k]) := by
  rw [Bool.eq_iff_iff, Bool.and_eq_true, means_append]
  constructor
  · rintro ⟨i, h1, h2, h3⟩
    rw [List.length_take] at h1
    have hl : ((s.take (k + 1)).drop i).length = 1 := by
      cases hq : decide (((s.take (k + 1)).drop i).length = 1) with
      | true => exact of_decide_eq_true hq
      | false => rw [means_set_len P _ (of_decide_eq_false hq)] at h3; cases h3
    rw [List.length_drop, List.length_take] at hl
    have hi : i = k := by omega
    subst hi
    rw [List.take_take, Nat.min_eq_left (by omega)] at h2
    refine ⟨h2, ?_⟩
    have hd : (s.take (i + 1)).drop i = [s[i]] := by
      rw [List.take_succ_eq_append_getElem hk]
      have : (s.take i).length = i := by rw [List.length_take]; omega
      rw [List.drop_append, List.drop_of_length_le (by omega), this, Nat.sub_self]; rfl
    rw [hd, means_one] at h3
    exact h3
  · rintro ⟨h1, h2⟩
    refine ⟨k, by rw [List.length_take]; omega, ?_, ?_⟩
    · rw [List.take_take, Nat.min_eq_left (by omega)]; exact h1
    · have hd : (s.take (k + 1)).drop k = [s[k]] := by
        rw [List.take_succ_eq_append_getElem hk]
        have : (s.take k).length = k := by rw [List.length_take]; omega
        rw [List.drop_append, List.drop_of_length_le (by omega), this, Nat.sub_self]; rfl
      rw [hd, means_one]; exact h2
theorem fr_set0 (L : List Sg) (P : UInt8 → Bool) (s : Bytes) : means (L ++ [.set P]) (s.take 0) = false := by
  rw [Bool.eq_false_iff]
  intro h
  obtain ⟨i, _, _, h3⟩ := (means_append _ _ _).1 h
  rw [List.take_zero, List.drop_nil] at h3
  cases h3
theorem fr_nil (s : Bytes) (k : Nat) (hk : k ≤ s.length) : means [] (s.take k) = decide (k = 0) := by
  cases k with
  | zero => rfl
  | succ k =>
    cases s with
    | nil => simp at hk
    | cons x s => rfl
end Go.Proofs.YtleoeccjnchclaaGreatDoor

/- What a pattern means, in plain Lean: its signs, what a row of signs means, and that going through a name with one star to come back to tells it; Plain facts on 64-bit words and on the seeded hash of a text: no program in sight. No condition but sizes. -/
namespace Go.Proofs.YtleoeccjnchclaaGreatDoor

abbrev Bytes := List UInt8
/-- the byte at the head of a pattern, a \ taken off, and how many bytes it takes -/
def lit : Bytes → UInt8 × Nat
  | [] => (0, 1)
  | [b] => (b, 1)
  | b :: c :: _ => if b = 92 then (c, 2) else (b, 1)
/-- an item of a set: a range, and how many bytes it takes -/
def item (q : Bytes) : (UInt8 × UInt8) × Nat :=
  match q.drop (lit q).2 with
  | b :: c :: r => if b = 45 ∧ c ≠ 93 then (((lit q).1, (lit (c :: r)).1), (lit q).2 + 1 + (lit (c :: r)).2) else (((lit q).1, (lit q).1), (lit q).2)
  | _ => (((lit q).1, (lit q).1), (lit q).2)
theorem lit_pos (q : Bytes) : 1 ≤ (lit q).2 ∧ (lit q).2 ≤ 2 := by
  unfold lit
  split
  · simp
  · simp
  · split <;> simp
theorem lit_le (q : Bytes) (h : q ≠ []) : (lit q).2 ≤ q.length := by
  match q, h with
  | [b], _ => simp [lit]
  | b :: c :: r, _ => have := lit_pos (b :: c :: r); simp; omega
theorem item_pos (q : Bytes) : 1 ≤ (item q).2 := by
  have := lit_pos q
  unfold item
  split
  · split <;> simp only <;> omega
  · simp only; omega
theorem item_le (q : Bytes) (h : q ≠ []) : (item q).2 ≤ q.length := by
  have h1 := lit_le q h
  unfold item
  split
  · rename_i b c r hd
    split
    · have h2 := lit_le (c :: r) (by simp)
      have h3 := congrArg List.length hd
      simp at h3 h2 ⊢
      omega
    · exact h1
  · exact h1
/-- the ranges of a set, and how many bytes they take -/
def items : Nat → Bytes → List (UInt8 × UInt8) × Nat
  | 0, _ => ([], 0)
  | _ + 1, [] => ([], 0)
  | f + 1, c :: q => if c = 93 then ([], 0) else ((item (c :: q)).1 :: (items f ((c :: q).drop (item (c :: q)).2)).1, (item (c :: q)).2 + (items f ((c :: q).drop (item (c :: q)).2)).2)
theorem items_le : ∀ (f : Nat) (q : Bytes), (items f q).2 ≤ q.length := by
  intro f
  induction f with
  | zero => intro q; exact Nat.zero_le _
  | succ f ih =>
    intro q
    cases q with
    | nil => exact Nat.zero_le _
    | cons c q =>
      unfold items
      split
      · exact Nat.zero_le _
      · have h1 := ih ((c :: q).drop (item (c :: q)).2)
        have h2 := item_le (c :: q) (by simp)
        rw [List.length_drop] at h1
        simp only
        omega
theorem items_fuel : ∀ (f g : Nat) (q : Bytes), q.length ≤ f → q.length ≤ g → items f q = items g q := by
  intro f
  induction f with
  | zero =>
    intro g q hf hg
    have : q = [] := List.length_eq_zero_iff.1 (by omega)
    subst this
    cases g <;> rfl
  | succ f ih =>
    intro g q hf hg
    cases q with
    | nil => cases g <;> rfl
    | cons c q =>
      cases g with
      | zero => simp at hg
      | succ g =>
        unfold items
        split
        · rfl
        · have h2 := item_pos (c :: q)
          have h3 : ((c :: q).drop (item (c :: q)).2).length ≤ q.length := by rw [List.length_drop]; simp; omega
          rw [ih g _ (by simp at hf; omega) (by simp at hg; omega)]
def within (x : UInt8) (r : UInt8 × UInt8) : Bool := decide (min r.1 r.2 ≤ x) && decide (x ≤ max r.1 r.2)
/-- the sign at the head of a pattern, which is no star: what it means, and how many bytes it takes -/
def neg (r : Bytes) : Bool := match r with | 94 :: _ => true | _ => false
def setAt (r : Bytes) : (UInt8 → Bool) × Nat :=
  let k := if neg r then 1 else 0
  let z := items r.length (r.drop k)
  ((fun x => (z.1.any (within x)) != neg r), min (k + z.2 + 1) r.length)
def sign1 (q : Bytes) : (UInt8 → Bool) × Nat :=
  match q with
  | 63 :: _ => (fun _ => true, 1)
  | 91 :: r => ((setAt r).1, 1 + (setAt r).2)
  | q => (fun x => (lit q).1 == x, (lit q).2)
theorem sign1_lit' (c : UInt8) (q : Bytes) (h1 : c ≠ 63) (h2 : c ≠ 91) : sign1 (c :: q) = (fun x => (lit (c :: q)).1 == x, (lit (c :: q)).2) := by
  unfold sign1
  split
  · rename_i e; cases e; exact absurd rfl h1
  · rename_i e; cases e; exact absurd rfl h2
  · rfl
theorem sign1_pos (q : Bytes) : 1 ≤ (sign1 q).2 := by
  unfold sign1
  split
  · simp
  · simp only; omega
  · exact (lit_pos _).1
theorem sign1_le (q : Bytes) (h : q ≠ []) : (sign1 q).2 ≤ q.length := by
  unfold sign1
  split
  · simp
  · unfold setAt; simp only [List.length_cons]; omega
  · exact lit_le _ h
inductive Sg where
  | star
  | set (P : UInt8 → Bool)
def parse : Nat → Bytes → List Sg
  | 0, _ => []
  | _ + 1, [] => []
  | f + 1, c :: q => if c = 42 then .star :: parse f q else .set (sign1 (c :: q)).1 :: parse f ((c :: q).drop (sign1 (c :: q)).2)
theorem parse_fuel : ∀ (f g : Nat) (q : Bytes), q.length ≤ f → q.length ≤ g → parse f q = parse g q := by
  intro f
  induction f with
  | zero =>
    intro g q hf hg
    have : q = [] := List.length_eq_zero_iff.1 (by omega)
    subst this
    cases g <;> rfl
  | succ f ih =>
    intro g q hf hg
    cases q with
    | nil => cases g <;> rfl
    | cons c q =>
      cases g with
      | zero => simp at hg
      | succ g =>
        unfold parse
        simp only [List.length_cons] at hf hg
        split
        · rw [ih g q (by omega) (by omega)]
        · have h2 := sign1_pos (c :: q)
          have h3 : ((c :: q).drop (sign1 (c :: q)).2).length ≤ q.length := by rw [List.length_drop]; simp; omega
          rw [ih g _ (by omega) (by omega)]
/-- the signs of a pattern -/
def signs (q : Bytes) : List Sg := parse q.length q
theorem signs_nil : signs [] = [] := rfl
theorem parse_cons (f : Nat) (c : UInt8) (q : Bytes) : parse (f + 1) (c :: q) = if c = 42 then .star :: parse f q else .set (sign1 (c :: q)).1 :: parse f ((c :: q).drop (sign1 (c :: q)).2) := rfl
theorem signs_star (q : Bytes) : signs (42 :: q) = .star :: signs q := by
  show parse (q.length + 1) (42 :: q) = .star :: parse q.length q
  rw [parse_cons, if_pos rfl]
theorem signs_set (c : UInt8) (q : Bytes) (h : c ≠ 42) : signs (c :: q) = .set (sign1 (c :: q)).1 :: signs ((c :: q).drop (sign1 (c :: q)).2) := by
  show parse (q.length + 1) (c :: q) = .set (sign1 (c :: q)).1 :: parse ((c :: q).drop (sign1 (c :: q)).2).length ((c :: q).drop (sign1 (c :: q)).2)
  rw [parse_cons, if_neg h]
  have h2 := sign1_pos (c :: q)
  have h3 : ((c :: q).drop (sign1 (c :: q)).2).length ≤ q.length := by rw [List.length_drop]; simp; omega
  rw [parse_fuel q.length _ _ h3 (Nat.le_refl _)]
/-- some tail of a name -/
def anyTail (f : Bytes → Bool) : Bytes → Bool
  | [] => f []
  | x :: s => f (x :: s) || anyTail f s
/-- does a row of signs mean a name? -/
def means : List Sg → Bytes → Bool
  | [] => fun s => s.isEmpty
  | .star :: r => anyTail (means r)
  | .set P :: r => fun s => match s with
    | [] => false
    | x :: s => P x && means r s
theorem anyTail_drop (f : Bytes → Bool) (s : Bytes) (k : Nat) (h : anyTail f (s.drop k) = true) : anyTail f s = true := by
  induction s generalizing k with
  | nil => simpa using h
  | cons x s ih =>
    cases k with
    | zero => exact h
    | succ k =>
      have := ih k (by simpa using h)
      simp [anyTail, this]
theorem anyTail_iff (f : Bytes → Bool) (s : Bytes) : anyTail f s = true ↔ ∃ k, k ≤ s.length ∧ f (s.drop k) = true := by
  induction s with
  | nil =>
    simp only [anyTail, List.length_nil, List.drop_nil]
    exact ⟨fun h => ⟨0, Nat.le_refl _, h⟩, fun ⟨_, _, h⟩ => h⟩
  | cons x s ih =>
    simp only [anyTail, Bool.or_eq_true, ih]
    constructor
    · rintro (h | ⟨k, h1, h2⟩)
      · exact ⟨0, Nat.zero_le _, h⟩
      · exact ⟨k + 1, by simp; omega, h2⟩
    · rintro ⟨k, h1, h2⟩
      cases k with
      | zero => exact .inl h2
      | succ k => exact .inr ⟨k, by simpa using h1, h2⟩
/-- signs that are no stars mean a name's front, one by one -/
def front (ps : List (UInt8 → Bool)) (s : Bytes) : Bool := match ps, s with
  | [], _ => true
  | _ :: _, [] => false
  | p :: ps, x :: s => p x && front ps s
theorem means_front (ps : List (UInt8 → Bool)) (r : List Sg) (s : Bytes) : means (ps.map .set ++ r) s = (front ps s && means r (s.drop ps.length)) := by
  induction ps generalizing s with
  | nil => simp [front]
  | cons p ps ih =>
    cases s with
    | nil => simp [means, front]
    | cons x s => simp [means, front, ih, Bool.and_assoc]
theorem front_len (ps : List (UInt8 → Bool)) (s : Bytes) (h : front ps s = true) : ps.length ≤ s.length := by
  induction ps generalizing s with
  | nil => simp
  | cons p ps ih =>
    cases s with
    | nil => simp [front] at h
    | cons x s =>
      simp only [front, Bool.and_eq_true] at h
      have := ih s h.2
      simp; omega
theorem front_snoc (ps : List (UInt8 → Bool)) (p : UInt8 → Bool) (s : Bytes) (x : UInt8) (t : Bytes) (h : front ps s = true) (hs : s.drop ps.length = x :: t) (hp : p x = true) : front (ps ++ [p]) s = true := by
  induction ps generalizing s with
  | nil => simp at hs; subst hs; simp [front, hp]
  | cons q ps ih =>
    cases s with
    | nil => simp [front] at h
    | cons y s =>
      simp only [front, Bool.and_eq_true] at h
      simp only [List.cons_append, front, h.1, Bool.true_and]
      exact ih s h.2 (by simpa using hs)
/-- a star behind signs that mean the front: what comes first will do -/
theorem star_next (ps : List (UInt8 → Bool)) (r : List Sg) (t : Bytes) (h : front ps t = true) : anyTail (means (ps.map .set ++ .star :: r)) t = anyTail (means r) (t.drop ps.length) := by
  rw [Bool.eq_iff_iff]
  constructor
  · intro ha
    obtain ⟨k, h1, h2⟩ := (anyTail_iff _ _).1 ha
    rw [means_front, Bool.and_eq_true] at h2
    have h3 : anyTail (means r) ((t.drop k).drop ps.length) = true := h2.2
    rw [List.drop_drop, Nat.add_comm, ← List.drop_drop] at h3
    exact anyTail_drop _ _ _ h3
  · intro ha
    refine (anyTail_iff _ _).2 ⟨0, Nat.zero_le _, ?_⟩
    rw [List.drop_zero, means_front, h, Bool.true_and]
    exact ha
/-- what was begun fails here: one byte on -/
theorem star_fail (ps : List (UInt8 → Bool)) (r : List Sg) (x : UInt8) (t : Bytes) (h : means r ((x :: t).drop ps.length) = false) : anyTail (means (ps.map .set ++ r)) (x :: t) = anyTail (means (ps.map .set ++ r)) t := by
  simp only [anyTail]
  rw [means_front, h, Bool.and_false, Bool.false_or]
/-- are signs stars alone? -/
def stars : List Sg → Bool
  | [] => true
  | .star :: r => stars r
  | .set _ :: _ => false
theorem means_nil (r : List Sg) : means r [] = stars r := by
  induction r with
  | nil => rfl
  | cons a r ih =>
    cases a with
    | star => simp [means, anyTail, stars, ih]
    | set P => simp [means, stars]
theorem means_stars_all (r : List Sg) (h : stars r = true) (hr : r ≠ []) (s : Bytes) : means r s = true := by
  induction r generalizing s with
  | nil => exact absurd rfl hr
  | cons a r ih =>
    cases a with
    | set P => simp [stars] at h
    | star =>
      simp only [stars] at h
      simp only [means]
      rw [anyTail_iff]
      exact ⟨s.length, Nat.le_refl _, by rw [List.drop_length, means_nil]; exact h⟩
/-- at the name's end, a star to come back to: no other way is left -/
theorem star_end (ps : List (UInt8 → Bool)) (r : List Sg) (t : Bytes) (h : front ps t = true) (hl : t.length = ps.length) : anyTail (means (ps.map .set ++ r)) t = stars r := by
  have h0 : t.drop ps.length = [] := by rw [← hl, List.drop_length]
  cases hs : stars r with
  | true =>
    refine (anyTail_iff _ _).2 ⟨0, Nat.zero_le _, ?_⟩
    rw [List.drop_zero, means_front, h, h0, means_nil, hs]; rfl
  | false =>
    rw [Bool.eq_false_iff]
    intro ha
    obtain ⟨k, h1, h2⟩ := (anyTail_iff _ _).1 ha
    rw [means_front, Bool.and_eq_true] at h2
    have h3 := front_len _ _ h2.1
    rw [List.length_drop] at h3
    have hk : k = 0 ∨ ps.length = 0 := by omega
    have h4 : (t.drop k).drop ps.length = [] := by
      rw [List.drop_drop]; exact List.drop_eq_nil_of_le (by omega)
    rw [h4, means_nil, hs] at h2
    exact absurd h2.2 (by decide)
theorem stars_signs (q : Bytes) : stars (signs q) = q.all (· == 42) := by
  induction q with
  | nil => rfl
  | cons c q ih =>
    by_cases h : c = 42
    · subst h; rw [signs_star]; simp [stars, ih]
    · rw [signs_set c q h]; simp [stars, h]
theorem means_append (a b : List Sg) (s : Bytes) : means (a ++ b) s = true ↔ ∃ i, i ≤ s.length ∧ means a (s.take i) = true ∧ means b (s.drop i) = true := by
  induction a generalizing s with
  | nil =>
    simp only [List.nil_append, means]
    constructor
    · intro h; exact ⟨0, Nat.zero_le _, rfl, h⟩
    · rintro ⟨i, h1, h2, h3⟩
      have : i = 0 := by
        have := congrArg List.length (List.isEmpty_iff.1 h2)
        simp at this
        rcases this with h | h
        · exact h
        · rw [h] at h1; simpa using h1
      subst this; exact h3
  | cons c a ih =>
    cases c with
    | set P =>
      cases s with
      | nil =>
        simp only [List.cons_append, means]
        constructor
        · intro h; cases h
        · rintro ⟨i, _, h2, _⟩; simp at h2
      | cons x s =>
        simp only [List.cons_append, means, Bool.and_eq_true, ih]
        constructor
        · rintro ⟨hp, i, h1, h2, h3⟩
          exact ⟨i + 1, by simp; omega, by simp [hp, h2], h3⟩
        · rintro ⟨i, h1, h2, h3⟩
          cases i with
          | zero => simp at h2
          | succ i =>
            simp only [List.take_succ_cons, Bool.and_eq_true] at h2
            exact ⟨h2.1, i, by simpa using h1, h2.2, h3⟩
    | star =>
      simp only [List.cons_append, means]
      constructor
      · intro h
        obtain ⟨k, hk, h2⟩ := (anyTail_iff _ _).1 h
        obtain ⟨i, h3, h4, h5⟩ := (ih _).1 h2
        rw [List.length_drop] at h3
        refine ⟨k + i, by omega, (anyTail_iff _ _).2 ⟨k, by rw [List.length_take]; omega, ?_⟩, ?_⟩
        · rw [List.drop_take, show k + i - k = i by omega]; exact h4
        · rw [List.drop_drop] at h5; exact h5
      · rintro ⟨i, h1, h2, h3⟩
        obtain ⟨k, hk, h4⟩ := (anyTail_iff _ _).1 h2
        rw [List.length_take] at hk
        refine (anyTail_iff _ _).2 ⟨k, by omega, (ih _).2 ⟨i - k, by rw [List.length_drop]; omega, ?_, ?_⟩⟩
        · rw [List.drop_take] at h4; exact h4
        · rw [List.drop_drop, show k + (i - k) = i by omega]; exact h3
/-- the ranges of a set's inside -/
def its (q : Bytes) : List (UInt8 × UInt8) × Nat := items q.length q
theorem its_nil : its [] = ([], 0) := rfl
theorem its_end (q : Bytes) : its (93 :: q) = ([], 0) := rfl
theorem its_cons (c : UInt8) (q : Bytes) (h : c ≠ 93) : its (c :: q) = ((item (c :: q)).1 :: (its ((c :: q).drop (item (c :: q)).2)).1, (item (c :: q)).2 + (its ((c :: q).drop (item (c :: q)).2)).2) := by
  have e : items (q.length + 1) (c :: q) = if c = 93 then ([], 0) else ((item (c :: q)).1 :: (items q.length ((c :: q).drop (item (c :: q)).2)).1, (item (c :: q)).2 + (items q.length ((c :: q).drop (item (c :: q)).2)).2) := rfl
  have h2 := item_pos (c :: q)
  have h3 : ((c :: q).drop (item (c :: q)).2).length ≤ q.length := by rw [List.length_drop]; simp; omega
  show items (q.length + 1) (c :: q) = _
  rw [e, if_neg h]
  unfold its
  rw [items_fuel q.length ((c :: q).drop (item (c :: q)).2).length _ h3 (Nat.le_refl _)]
theorem its_le (q : Bytes) : (its q).2 ≤ q.length := items_le _ _
def negN (r : Bytes) : Nat := if neg r then 1 else 0
theorem setAt_eq (r : Bytes) : setAt r = ((fun x => ((its (r.drop (negN r))).1.any (within x)) != neg r), min (negN r + (its (r.drop (negN r))).2 + 1) r.length) := by
  have h : items r.length (r.drop (negN r)) = its (r.drop (negN r)) := items_fuel _ _ _ (by rw [List.length_drop]; omega) (Nat.le_refl _)
  unfold setAt
  simp only
  rw [show (if neg r = true then 1 else 0) = negN r from rfl, h]
/-- going through a name: W is what is asked; a: the place in the pattern; st: behind the last star (-1: none); f: where what it means ends; i: the place in the name -/
def Rel (p s : Bytes) (W : Bool) (a : Nat) (st : Int) (f i : Nat) : Prop :=
  (st = -1 ∧ f = 0 ∧ W = means (signs (p.drop a)) (s.drop i)) ∨
    ∃ (sa : Nat) (ps : List (UInt8 → Bool)), st = sa ∧ sa ≤ p.length ∧ signs (p.drop sa) = ps.map .set ++ signs (p.drop a) ∧ front ps (s.drop f) = true ∧ i = f + ps.length ∧ W = anyTail (means (signs (p.drop sa))) (s.drop f)
theorem rel_start (p s : Bytes) : Rel p s (means (signs p) s) 0 (-1) 0 0 := .inl ⟨rfl, rfl, rfl⟩
theorem rel_star {p s : Bytes} {W : Bool} {a : Nat} {st : Int} {f i : Nat} (h : Rel p s W a st f i) (q : Bytes) (hp : p.drop a = 42 :: q) : Rel p s W (a + 1) ((a + 1 : Nat) : Int) i i := by
  have hq : p.drop (a + 1) = q := by rw [← List.drop_drop, hp]; rfl
  have hl : a + 1 ≤ p.length := by
    have := congrArg List.length hp
    rw [List.length_drop, List.length_cons] at this
    omega
  right
  refine ⟨a + 1, [], rfl, hl, rfl, rfl, rfl, ?_⟩
  rcases h with ⟨_, _, h⟩ | ⟨sa, ps, _, _, h1, h2, h3, h4⟩
  · rw [h, hp, signs_star, hq]; rfl
  · rw [h4, h1, hp, signs_star, star_next ps _ _ h2, List.drop_drop, ← h3, hq]
theorem rel_adv {p s : Bytes} {W : Bool} {a : Nat} {st : Int} {f i : Nat} (h : Rel p s W a st f i) (c : UInt8) (q : Bytes) (hp : p.drop a = c :: q) (hc : c ≠ 42) (x : UInt8) (t : Bytes) (hs : s.drop i = x :: t) (hx : (sign1 (p.drop a)).1 x = true) :
    Rel p s W (a + (sign1 (p.drop a)).2) st f (i + 1) := by
  have hsg := signs_set c q hc
  rw [← hp, List.drop_drop] at hsg
  have hs1 : s.drop (i + 1) = t := by rw [← List.drop_drop, hs]; rfl
  rcases h with ⟨h1, h2, h3⟩ | ⟨sa, ps, h0, hl, h1, h2, h3, h4⟩
  · left
    refine ⟨h1, h2, ?_⟩
    rw [h3, hsg, hs, hs1]
    simp [means, hx]
  · right
    refine ⟨sa, ps ++ [(sign1 (p.drop a)).1], h0, hl, ?_, ?_, by simp; omega, h4⟩
    · rw [h1, hsg]; simp
    · exact front_snoc ps _ _ x t h2 (by rw [List.drop_drop, ← h3]; exact hs) hx
/-- what stands at the place in the pattern does not mean what stands in the name -/
def Stuck (p s : Bytes) (a i : Nat) : Prop := means (signs (p.drop a)) (s.drop i) = false
theorem stuck_end {p s : Bytes} {a i : Nat} (hp : p.drop a = []) (x : UInt8) (t : Bytes) (hs : s.drop i = x :: t) : Stuck p s a i := by
  unfold Stuck; rw [hp, hs]; rfl
theorem stuck_set {p s : Bytes} {a i : Nat} (c : UInt8) (q : Bytes) (hp : p.drop a = c :: q) (hc : c ≠ 42) (x : UInt8) (t : Bytes) (hs : s.drop i = x :: t) (hx : (sign1 (p.drop a)).1 x = false) : Stuck p s a i := by
  unfold Stuck
  have hsg := signs_set c q hc
  rw [← hp] at hsg
  rw [hsg, hs]
  simp [means, hx]
theorem rel_fail_no {p s : Bytes} {W : Bool} {a f i : Nat} (h : Rel p s W a (-1) f i) (hk : Stuck p s a i) : W = false := by
  rcases h with ⟨_, _, h⟩ | ⟨sa, _, h0, _⟩
  · rw [h]; exact hk
  · omega
theorem rel_fail {p s : Bytes} {W : Bool} {a f i : Nat} {sa : Nat} (h : Rel p s W a (sa : Int) f i) (hk : Stuck p s a i) (hi : i < s.length) : Rel p s W sa (sa : Int) (f + 1) (f + 1) ∧ f ≤ i ∧ sa ≤ p.length := by
  rcases h with ⟨h0, _⟩ | ⟨sb, ps, h0, hl, h1, h2, h3, h4⟩
  · omega
  · have hsb : sb = sa := by omega
    subst hsb
    refine ⟨.inr ⟨sb, [], rfl, hl, rfl, rfl, rfl, ?_⟩, by omega, hl⟩
    have hf : f < s.length := by omega
    have e := List.drop_eq_getElem_cons hf
    rw [h4, e]
    rw [h1]
    have hk' : means (signs (p.drop a)) ((s[f] :: s.drop (f + 1)).drop ps.length) = false := by
      rw [← e, List.drop_drop, ← h3]; exact hk
    exact star_fail ps _ _ _ hk'
theorem rel_end {p s : Bytes} {W : Bool} {a : Nat} {st : Int} {f : Nat} (h : Rel p s W a st f s.length) : W = (p.drop a).all (· == 42) := by
  rw [← stars_signs]
  rcases h with ⟨_, _, h⟩ | ⟨sa, ps, _, _, h1, h2, h3, h4⟩
  · rw [h, List.drop_length, means_nil]
  · rw [h4, h1]
    exact star_end ps _ _ h2 (by rw [List.length_drop]; omega)
theorem rel_st {p s : Bytes} {W : Bool} {a : Nat} {st : Int} {f i : Nat} (h : Rel p s W a st f i) : (st = -1 ∧ f = 0) ∨ ∃ sa : Nat, st = sa ∧ sa ≤ p.length ∧ f ≤ i := by
  rcases h with ⟨h1, h2, _⟩ | ⟨sa, ps, h0, hl, _, _, h3, _⟩
  · exact .inl ⟨h1, h2⟩
  · exact .inr ⟨sa, h0, hl, by omega⟩
/-- the one name that a pattern means -/
def plainF : Nat → Bytes → Option Bytes
  | 0, _ => some []
  | _ + 1, [] => some []
  | f + 1, c :: q => if c = 42 ∨ c = 63 ∨ c = 91 then none else (plainF f ((c :: q).drop (lit (c :: q)).2)).map ((lit (c :: q)).1 :: ·)
theorem plainF_fuel : ∀ (f g : Nat) (q : Bytes), q.length ≤ f → q.length ≤ g → plainF f q = plainF g q := by
  intro f
  induction f with
  | zero =>
    intro g q hf hg
    have : q = [] := List.length_eq_zero_iff.1 (by omega)
    subst this
    cases g <;> rfl
  | succ f ih =>
    intro g q hf hg
    cases q with
    | nil => cases g <;> rfl
    | cons c q =>
      cases g with
      | zero => simp at hg
      | succ g =>
        unfold plainF
        split
        · rfl
        · have h2 := (lit_pos (c :: q)).1
          have h3 : ((c :: q).drop (lit (c :: q)).2).length ≤ q.length := by rw [List.length_drop]; simp; omega
          rw [ih g _ (by simp at hf; omega) (by simp at hg; omega)]
def plainO (q : Bytes) : Option Bytes := plainF q.length q
theorem plainO_nil : plainO [] = some [] := rfl
theorem plainO_none (c : UInt8) (q : Bytes) (h : c = 42 ∨ c = 63 ∨ c = 91) : plainO (c :: q) = none := by
  have e : plainF (q.length + 1) (c :: q) = if c = 42 ∨ c = 63 ∨ c = 91 then none else (plainF q.length ((c :: q).drop (lit (c :: q)).2)).map ((lit (c :: q)).1 :: ·) := rfl
  show plainF (q.length + 1) (c :: q) = _
  rw [e, if_pos h]
theorem plainO_cons (c : UInt8) (q : Bytes) (h : ¬ (c = 42 ∨ c = 63 ∨ c = 91)) : plainO (c :: q) = (plainO ((c :: q).drop (lit (c :: q)).2)).map ((lit (c :: q)).1 :: ·) := by
  have e : plainF (q.length + 1) (c :: q) = if c = 42 ∨ c = 63 ∨ c = 91 then none else (plainF q.length ((c :: q).drop (lit (c :: q)).2)).map ((lit (c :: q)).1 :: ·) := rfl
  have h2 := (lit_pos (c :: q)).1
  have h3 : ((c :: q).drop (lit (c :: q)).2).length ≤ q.length := by rw [List.length_drop]; simp; omega
  show plainF (q.length + 1) (c :: q) = _
  rw [e, if_neg h]
  unfold plainO
  rw [plainF_fuel q.length ((c :: q).drop (lit (c :: q)).2).length _ h3 (Nat.le_refl _)]
/-- each byte with a \ ahead of it -/
def esc (l : Bytes) : Bytes := l.flatMap fun b => [92, b]
theorem esc_cons (b : UInt8) (l : Bytes) : esc (b :: l) = 92 :: b :: esc l := rfl
theorem esc_append (a b : Bytes) : esc (a ++ b) = esc a ++ esc b := by simp [esc]
theorem esc_snoc (l : Bytes) (b : UInt8) : esc (l ++ [b]) = esc l ++ [92, b] := by simp [esc]
theorem esc_len (l : Bytes) : (esc l).length = 2 * l.length := by
  induction l with
  | nil => rfl
  | cons a l ih => simp only [esc, List.flatMap_cons, List.length_append, List.length_cons, List.length_nil] at ih ⊢; omega
theorem lit_esc2 (b : UInt8) (q : Bytes) : lit (92 :: b :: q) = (b, 2) := rfl
theorem plain_esc (l : Bytes) : plainO (esc l) = some l := by
  induction l with
  | nil => rfl
  | cons b l ih =>
    rw [esc_cons, plainO_cons 92 _ (by decide), lit_esc2]
    show (plainO (esc l)).map (b :: ·) = _
    rw [ih]; rfl
def special (c : UInt8) : Bool := c == 42 || c == 63 || c == 91 || c == 92
theorem lit_plain (c : UInt8) (q : Bytes) (h : c ≠ 92) : lit (c :: q) = (c, 1) := by
  cases q with
  | nil => rfl
  | cons d q => show (if c = 92 then (d, 2) else (c, 1)) = _; rw [if_neg h]
theorem plain_plain (l : Bytes) (h : ∀ c ∈ l, special c = false) : plainO l = some l := by
  induction l with
  | nil => rfl
  | cons c l ih =>
    have hc := h c (by simp)
    simp only [special, Bool.or_eq_false_iff, beq_eq_false_iff_ne] at hc
    rw [plainO_cons c l (fun e => e.elim hc.1.1.1 (fun e => e.elim hc.1.1.2 hc.1.2)), lit_plain c l hc.2]
    show (plainO l).map (c :: ·) = _
    rw [ih (fun d hd => h d (by simp [hd]))]; rfl
def one1 (b : UInt8) : Sg := .set fun x => b == x
theorem signs_esc (l : Bytes) (q : Bytes) : signs (esc l ++ q) = l.map one1 ++ signs q := by
  induction l with
  | nil => rfl
  | cons b l ih =>
    rw [esc_cons, List.cons_append, List.cons_append, signs_set 92 _ (by decide)]
    have e : sign1 (92 :: b :: (esc l ++ q)) = (fun x => b == x, 2) := rfl
    rw [e]
    show Sg.set (fun x => b == x) :: signs (esc l ++ q) = _
    rw [ih]; rfl
theorem signs_plain (l : Bytes) (h : ∀ c ∈ l, special c = false) : signs l = l.map one1 := by
  induction l with
  | nil => rfl
  | cons c l ih =>
    have hc := h c (by simp)
    simp only [special, Bool.or_eq_false_iff, beq_eq_false_iff_ne] at hc
    rw [signs_set c l hc.1.1.1, sign1_lit' c l hc.1.1.2 hc.1.2, lit_plain c l hc.2]
    show Sg.set (fun x => c == x) :: signs l = _
    rw [ih (fun d hd => h d (by simp [hd]))]; rfl
theorem means_ones (l : Bytes) (r : List Sg) (s : Bytes) : means (l.map one1 ++ r) s = (decide (s.take l.length = l) && means r (s.drop l.length)) := by
  induction l generalizing s with
  | nil => simp
  | cons b l ih =>
    cases s with
    | nil => simp [means, one1]
    | cons x s =>
      simp only [List.map_cons, List.cons_append, List.length_cons, List.take_succ_cons, List.drop_succ_cons, List.cons.injEq]
      show ((b == x) && means (l.map one1 ++ r) s) = _
      rw [ih]
      by_cases hb : b = x
      · subst hb; simp
      · have : ¬ x = b := fun e => hb e.symm
        simp [hb, this]
theorem means_text (l s : Bytes) : means (l.map one1) s = decide (s = l) := by
  have h := means_ones l [] s
  rw [List.append_nil] at h
  rw [h]
  simp only [means]
  rw [Bool.eq_iff_iff]
  simp only [Bool.and_eq_true, decide_eq_true_eq, List.isEmpty_iff, List.drop_eq_nil_iff]
  constructor
  · rintro ⟨h1, h2⟩; rw [← h1, List.take_of_length_le h2]
  · rintro rfl; simp
end Go.Proofs.YtleoeccjnchclaaGreatDoor
namespace Go.Proofs.YtleoeccjnchclaaGreatDoor

/-- one byte of a text goes into a hash -/
def hstep (h : UInt64) (b : UInt8) : UInt64 := (h ^^^ b.toUInt64) * 1099511628211
def hfold (h : UInt64) (l : List UInt8) : UInt64 := l.foldl hstep h
def hmid (h : UInt64) : UInt64 := (h ^^^ (h >>> 32)) * 11400714819323198485
def hfin (h : UInt64) : UInt64 := h ^^^ (h >>> 29)
/-- the hash of a text under a seed -/
def hash (seed : UInt64) (l : List UInt8) : UInt64 := hfin (hmid (hfold (14695981039346656037 ^^^ seed) l))

theorem xor_inj (a b c : UInt64) (h : a ^^^ c = b ^^^ c) : a = b := by
  have := congrArg (· ^^^ c) h
  simpa [UInt64.xor_assoc] using this
theorem xor_inj' (a b c : UInt64) (h : c ^^^ a = c ^^^ b) : a = b := by
  rw [UInt64.xor_comm c a, UInt64.xor_comm c b] at h; exact xor_inj a b c h
theorem mul_inj (a b c d : UInt64) (hcd : c * d = 1) (h : a * c = b * c) : a = b := by
  have := congrArg (· * d) h
  simpa [UInt64.mul_assoc, hcd] using this
theorem xor_swap (x y z w : UInt64) (h : x ^^^ y = z ^^^ w) : x ^^^ z = y ^^^ w := by
  have e : x ^^^ z = (x ^^^ y) ^^^ (y ^^^ z) := by rw [UInt64.xor_assoc, ← UInt64.xor_assoc y y z, UInt64.xor_self, UInt64.zero_xor]
  rw [e, h]
  have e2 : (z ^^^ w) ^^^ (y ^^^ z) = (z ^^^ z) ^^^ (y ^^^ w) := by ac_rfl
  rw [e2]; simp
theorem eq_of_xor (a b : UInt64) (h : a ^^^ b = 0) : a = b := by
  have := xor_inj a b b (by rw [h, UInt64.xor_self])
  exact this
theorem shr32_inj (a b : UInt64) (h : a ^^^ (a >>> 32) = b ^^^ (b >>> 32)) : a = b := by
  have h1 := xor_swap _ _ _ _ h
  have h2 : ((a ^^^ b).toNat) = (a ^^^ b).toNat / 4294967296 := by
    conv => lhs; rw [h1]
    simp only [UInt64.toNat_xor, UInt64.toNat_shiftRight]
    show a.toNat >>> 32 ^^^ b.toNat >>> 32 = _
    rw [← Nat.shiftRight_xor_distrib, Nat.shiftRight_eq_div_pow]
  refine eq_of_xor a b (UInt64.toNat_inj.1 ?_)
  show (a ^^^ b).toNat = 0
  omega
theorem shr29_inj (a b : UInt64) (h : a ^^^ (a >>> 29) = b ^^^ (b >>> 29)) : a = b := by
  have h1 := xor_swap _ _ _ _ h
  have h2 : ((a ^^^ b).toNat) = (a ^^^ b).toNat / 536870912 := by
    conv => lhs; rw [h1]
    simp only [UInt64.toNat_xor, UInt64.toNat_shiftRight]
    show a.toNat >>> 29 ^^^ b.toNat >>> 29 = _
    rw [← Nat.shiftRight_xor_distrib, Nat.shiftRight_eq_div_pow]
  refine eq_of_xor a b (UInt64.toNat_inj.1 ?_)
  show (a ^^^ b).toNat = 0
  omega
theorem hstep_inj (a b : UInt64) (x : UInt8) (h : hstep a x = hstep b x) : a = b :=
  xor_inj _ _ _ (mul_inj _ _ _ 14886173955864302971 (by decide) h)
theorem hstep_inj' (a : UInt64) (x y : UInt8) (h : hstep a x = hstep a y) : x = y := by
  have h1 := xor_inj' _ _ _ (mul_inj _ _ _ 14886173955864302971 (by decide) h)
  have h2 := congrArg UInt64.toNat h1
  rw [UInt8.toNat_toUInt64, UInt8.toNat_toUInt64] at h2
  exact UInt8.toNat_inj.1 h2
theorem hfold_inj (l : List UInt8) : ∀ a b : UInt64, hfold a l = hfold b l → a = b := by
  induction l with
  | nil => intro a b h; exact h
  | cons x l ih => intro a b h; exact hstep_inj a b x (ih _ _ h)
theorem hmid_inj (a b : UInt64) (h : hmid a = hmid b) : a = b :=
  shr32_inj a b (mul_inj _ _ _ 17428512612931826493 (by decide) h)
theorem hfin_inj (a b : UInt64) (h : hfin a = hfin b) : a = b := shr29_inj a b h
theorem hash_seed (s t : UInt64) (l : List UInt8) (h : hash s l = hash t l) : s = t :=
  xor_inj' _ _ _ (hfold_inj l _ _ (hmid_inj _ _ (hfin_inj _ _ h)))
theorem hfold_set (l : List UInt8) : ∀ (a : UInt64) (k : Nat) (x : UInt8) (hk : k < l.length), hfold a (l.set k x) = hfold a l → x = l[k] := by
  induction l with
  | nil => intro a k x hk; simp at hk
  | cons y l ih =>
    intro a k x hk h
    cases k with
    | zero => exact hstep_inj' a x y (hfold_inj l _ _ h)
    | succ k => exact ih (hstep a y) k x (by simpa using hk) h
theorem hash_byte (s : UInt64) (l : List UInt8) (k : Nat) (x : UInt8) (hk : k < l.length) (h : hash s (l.set k x) = hash s l) : x = l[k] :=
  hfold_set l _ k x hk (hmid_inj _ _ (hfin_inj _ _ h))
theorem hfold_snoc (h : UInt64) (l : List UInt8) (b : UInt8) : hfold h (l ++ [b]) = hstep (hfold h l) b := by
  simp [hfold, List.foldl_append]
end Go.Proofs.YtleoeccjnchclaaGreatDoor

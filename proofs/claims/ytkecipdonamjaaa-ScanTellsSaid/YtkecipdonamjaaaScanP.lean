/- Scanning a table: what is told from a cursor on, as plain laws. The cursor's place is its digits the other way round. No condition; no program. -/
import Derived.Test.YtkecipdonamjaaaRev
namespace Go.Proofs.Ytkecipdonamjaaa
theorem tr_split (g s q : Nat) (hs : s ≤ g) : tr g q = 2 ^ s * tr (g - s) (q % 2 ^ (g - s)) + tr s (q / 2 ^ (g - s)) := by
  have e : q = 2 ^ (g - s) * (q / 2 ^ (g - s)) + q % 2 ^ (g - s) := (Nat.div_add_mod _ _).symm
  have h := tr_add (g - s) s (q % 2 ^ (g - s)) (q / 2 ^ (g - s)) (Nat.mod_lt _ (Nat.two_pow_pos _))
  rw [← e, Nat.sub_add_cancel hs] at h
  exact h
/-- the digits that the smaller table does not count are all 0 just at a multiple -/
theorem hi_zero (g s q : Nat) (hs : s ≤ g) : tr g q / 2 ^ s = 0 ↔ q % 2 ^ (g - s) = 0 := by
  rw [tr_split g s q hs, Nat.mul_add_div (Nat.two_pow_pos s), Nat.div_eq_of_lt (tr_lt s _), Nat.add_zero]
  constructor
  · intro h
    have h1 := congrArg (tr (g - s)) h
    rw [tr_tr, tr_zero, Nat.mod_mod] at h1
    exact h1
  · intro h; rw [h, tr_zero]
theorem lo_digits (g s c : Nat) (hs : s ≤ g) : c % 2 ^ s = tr s (tr g c / 2 ^ (g - s)) := by
  have h := tr_split g s (tr g c) hs
  rw [tr_tr] at h
  have h2 : (c % 2 ^ g) % 2 ^ s = tr s (tr g c / 2 ^ (g - s)) := by
    rw [h, Nat.mul_add_mod, Nat.mod_eq_of_lt (tr_lt s _)]
  rw [← h2, Nat.mod_mod_of_dvd _ (Nat.pow_dvd_pow 2 hs)]
/-- the end of the stretch of 2^r places in which a place lies -/
def en (r p : Nat) : Nat := (p / 2 ^ r + 1) * 2 ^ r
theorem en_gt (r p : Nat) : p < en r p := by
  unfold en
  have h := Nat.div_add_mod p (2 ^ r)
  have h2 := Nat.mod_lt p (Nat.two_pow_pos r)
  have : (p / 2 ^ r + 1) * 2 ^ r = 2 ^ r * (p / 2 ^ r) + 2 ^ r := by rw [Nat.add_mul, Nat.mul_comm, Nat.one_mul]
  omega
theorem en_le (g r p : Nat) (hr : r ≤ g) (hp : p < 2 ^ g) : en r p ≤ 2 ^ g := by
  unfold en
  have e : 2 ^ g = 2 ^ (g - r) * 2 ^ r := by rw [← Nat.pow_add, Nat.sub_add_cancel hr]
  have h : p / 2 ^ r < 2 ^ (g - r) := by rw [Nat.div_lt_iff_lt_mul (Nat.two_pow_pos r), ← e]; exact hp
  rw [e]
  exact Nat.mul_le_mul_right _ h
theorem en_mod (r p : Nat) : en r p % 2 ^ r = 0 := by unfold en; exact Nat.mul_mod_left _ _
theorem en_div (r p : Nat) : en r p / 2 ^ r = p / 2 ^ r + 1 := by unfold en; exact Nat.mul_div_cancel _ (Nat.two_pow_pos r)
theorem div_succ (r p : Nat) : (p + 1) / 2 ^ r = p / 2 ^ r + if (p + 1) % 2 ^ r = 0 then 1 else 0 := by
  rw [Nat.succ_div]
  simp only [Nat.dvd_iff_mod_eq_zero]
theorem en_hit (r p : Nat) (h : (p + 1) % 2 ^ r = 0) : en r p = p + 1 := by
  have h1 := div_succ r p
  rw [if_pos h] at h1
  unfold en
  rw [← h1]
  have := Nat.div_add_mod (p + 1) (2 ^ r)
  rw [h, Nat.add_zero, Nat.mul_comm] at this
  exact this
theorem en_miss (r p : Nat) (h : ¬ (p + 1) % 2 ^ r = 0) : en r (p + 1) = en r p := by
  unfold en
  rw [div_succ r p, if_neg h, Nat.add_zero]
section
variable {α : Type}
/-- the buckets of the places from p up to e -/
def blk (G : Nat → List α) (g p e : Nat) : List α := (List.range' p (e - p)).flatMap fun i => G (tr g i)
theorem blk_nil (G : Nat → List α) (g p : Nat) : blk G g p p = [] := by unfold blk; rw [Nat.sub_self]; rfl
theorem blk_snoc (G : Nat → List α) (g p q : Nat) (h : p ≤ q) : blk G g p (q + 1) = blk G g p q ++ G (tr g q) := by
  unfold blk
  rw [show q + 1 - p = (q - p) + 1 by omega, List.range'_concat, List.flatMap_append, List.flatMap_singleton, show p + 1 * (q - p) = q by omega]
theorem blk_append (G : Nat → List α) (g p q e : Nat) (h : p ≤ q) (h2 : q ≤ e) : blk G g p e = blk G g p q ++ blk G g q e := by
  unfold blk
  rw [← List.flatMap_append]
  congr 1
  have := List.range'_append (s := p) (m := q - p) (n := e - q) (step := 1)
  rw [Nat.one_mul, show p + (q - p) = q by omega, show q - p + (e - q) = e - p by omega] at this
  exact this.symm
/-- tables that are scanned: 2^g buckets in the greater one; stretches of 2^r places; how many keys are asked for -/
structure TB (α : Type) where
  g : Nat
  r : Nat
  cnt : Nat
  G : Nat → List α
  S : Nat → List α
def TB.pos (T : TB α) (c : Nat) : Nat := tr T.g c
def TB.turnC (T : TB α) (c : Nat) : Nat := if en T.r (tr T.g c) = 2 ^ T.g then 0 else tr T.g (en T.r (tr T.g c))
def TB.turnK (T : TB α) (c : Nat) : List α := T.S c ++ blk T.G T.g (tr T.g c) (en T.r (tr T.g c))
def TB.nxtF (T : TB α) : Nat → Nat → List α → Nat × List α
  | 0, c, l => (c, l)
  | f + 1, c, l => if T.turnC c = 0 ∨ T.cnt ≤ (l ++ T.turnK c).length then (T.turnC c, l ++ T.turnK c) else T.nxtF f (T.turnC c) (l ++ T.turnK c)
theorem TB.turn_pos (T : TB α) (c : Nat) (hr : T.r ≤ T.g) (h : T.turnC c ≠ 0) : tr T.g (T.turnC c) = en T.r (tr T.g c) ∧ en T.r (tr T.g c) < 2 ^ T.g := by
  have hl := en_le T.g T.r (tr T.g c) hr (tr_lt _ _)
  unfold TB.turnC at h ⊢
  by_cases he : en T.r (tr T.g c) = 2 ^ T.g
  · rw [if_pos he] at h; exact absurd rfl h
  · rw [if_neg he, tr_tr, Nat.mod_eq_of_lt (by omega)]
    exact ⟨rfl, by omega⟩
theorem TB.nxtF_fuel (T : TB α) (hr : T.r ≤ T.g) : ∀ f f' c l, 2 ^ T.g - tr T.g c ≤ f → 2 ^ T.g - tr T.g c ≤ f' → T.nxtF f c l = T.nxtF f' c l := by
  intro f
  induction f with
  | zero => intro f' c l h; have := tr_lt T.g c; omega
  | succ f ih =>
    intro f' c l h h'
    have hl := tr_lt T.g c
    cases f' with
    | zero => omega
    | succ f' =>
      unfold TB.nxtF
      by_cases hc : T.turnC c = 0 ∨ T.cnt ≤ (l ++ T.turnK c).length
      · rw [if_pos hc, if_pos hc]
      · rw [if_neg hc, if_neg hc]
        obtain ⟨h1, h2⟩ := T.turn_pos c hr (fun e => hc (.inl e))
        have := en_gt T.r (tr T.g c)
        exact ih f' _ _ (by rw [h1]; omega) (by rw [h1]; omega)
/-- what is told from a cursor on, behind what was told -/
def TB.nxt (T : TB α) (c : Nat) (l : List α) : Nat × List α := T.nxtF (2 ^ T.g) c l
theorem TB.nxt_eq (T : TB α) (hr : T.r ≤ T.g) (c : Nat) (l : List α) :
    T.nxt c l = if T.turnC c = 0 ∨ T.cnt ≤ (l ++ T.turnK c).length then (T.turnC c, l ++ T.turnK c) else T.nxt (T.turnC c) (l ++ T.turnK c) := by
  have hp := Nat.two_pow_pos T.g
  have e : T.nxt c l = T.nxtF (2 ^ T.g + 1) c l := T.nxtF_fuel hr _ _ c l (by omega) (by omega)
  rw [e]
  rfl
/-- how many keys the first n places have -/
def wt (f : Nat → Nat) (n : Nat) : Nat := ((List.range n).map f).sum
theorem wt_succ (f : Nat → Nat) (n : Nat) : wt f (n + 1) = wt f n + f n := by
  unfold wt
  rw [List.range_succ, List.map_append, List.sum_append]; simp
theorem wt_mono (f : Nat → Nat) {m n : Nat} (h : m ≤ n) : wt f m ≤ wt f n := by
  induction n with
  | zero => have : m = 0 := by omega
            subst this; exact Nat.le_refl _
  | succ n ih =>
    by_cases hm : m = n + 1
    · rw [hm]; exact Nat.le_refl _
    · rw [wt_succ]; have := ih (by omega); omega
theorem blk_len (G : Nat → List α) (g p e : Nat) (h : p ≤ e) : wt (fun i => (G (tr g i)).length) p + (blk G g p e).length = wt (fun i => (G (tr g i)).length) e := by
  obtain ⟨k, rfl⟩ : ∃ k, e = p + k := ⟨e - p, by omega⟩
  induction k with
  | zero => rw [Nat.add_zero, blk_nil]; rfl
  | succ k ih =>
    rw [← Nat.add_assoc, blk_snoc _ _ _ _ (by omega), wt_succ, List.length_append]
    have := ih (by omega)
    omega
end
/-- the places of a table are its buckets, each once -/
theorem tr_perm (g : Nat) : ((List.range (2 ^ g)).map (tr g)).Perm (List.range (2 ^ g)) := by
  have hn : ((List.range (2 ^ g)).map (tr g)).Nodup := by
    rw [List.nodup_iff_pairwise_ne, List.pairwise_map]
    refine List.Pairwise.imp_of_mem ?_ (List.nodup_iff_pairwise_ne.1 List.nodup_range)
    intro a b ha hb hab h
    have := congrArg (tr g) h
    rw [tr_tr, tr_tr, Nat.mod_eq_of_lt (List.mem_range.1 ha), Nat.mod_eq_of_lt (List.mem_range.1 hb)] at this
    exact hab this
  refine (List.perm_ext_iff_of_nodup hn List.nodup_range).2 (fun a => ?_)
  rw [List.mem_map, List.mem_range]
  constructor
  · rintro ⟨b, _, rfl⟩; exact tr_lt g b
  · intro ha
    exact ⟨tr g a, List.mem_range.2 (tr_lt g a), by rw [tr_tr, Nat.mod_eq_of_lt ha]⟩
theorem wt_tr (f : Nat → Nat) (g : Nat) : wt (fun i => f (tr g i)) (2 ^ g) = wt f (2 ^ g) := by
  unfold wt
  have h := (tr_perm g).map f
  rw [List.map_map] at h
  exact h.sum_nat
end Go.Proofs.Ytkecipdonamjaaa

/- The digits of a number the other way round: Reverse64 and a scan's next cursor as plain laws. No condition; no program. -/
import Derived.Test.YtkecipdonamjaaaBitsW
namespace Go.Proofs.Ytkecipdonamjaaa

/-- the k low digits of x, the other way round -/
def tr : Nat → Nat → Nat
  | 0, _ => 0
  | k + 1, x => 2 ^ k * (x % 2) + tr k (x / 2)
theorem tr_lt : ∀ k x, tr k x < 2 ^ k := by
  intro k
  induction k with
  | zero => intro x; exact Nat.one_pos
  | succ k ih =>
    intro x
    have h1 := ih (x / 2)
    have h2 : 2 ^ k * (x % 2) ≤ 2 ^ k * 1 := Nat.mul_le_mul_left _ (by omega)
    have h3 : 2 ^ (k + 1) = 2 ^ k * 2 := Nat.pow_succ ..
    unfold tr
    omega
theorem tr_bit : ∀ k x i, (tr k x).testBit i = (decide (i < k) && x.testBit (k - 1 - i)) := by
  intro k
  induction k with
  | zero => intro x i; simp [tr]
  | succ k ih =>
    intro x i
    unfold tr
    rw [Nat.testBit_two_pow_mul_add _ (tr_lt k _)]
    by_cases h : i < k
    · rw [if_pos h, ih, Nat.testBit_div_two]
      have e : k - 1 - i + 1 = k + 1 - 1 - i := by omega
      rw [e]
      simp [h, Nat.lt_succ_of_lt h]
    · rw [if_neg h]
      by_cases h2 : i = k
      · subst h2
        have e : i + 1 - 1 - i = 0 := by omega
        rw [e, Nat.sub_self]
        have := Nat.mod_two_eq_zero_or_one x
        rcases this with hx | hx <;> simp [hx, Nat.testBit_zero]
      · have h3 : ¬ i < k + 1 := by omega
        have h4 : 1 ≤ i - k := by omega
        have h5 : x % 2 < 2 ^ (i - k) := Nat.lt_of_lt_of_le (Nat.mod_lt _ (by decide)) (by rw [show (2:Nat) = 2 ^ 1 from rfl, ← Nat.pow_mul, Nat.one_mul]; exact Nat.pow_le_pow_right (by decide) h4)
        rw [Nat.testBit_lt_two_pow h5]
        simp [h3]
theorem tr_mod (k x m : Nat) (h : k ≤ m) : tr k (x % 2 ^ m) = tr k x := by
  refine Nat.eq_of_testBit_eq (fun i => ?_)
  rw [tr_bit, tr_bit]
  by_cases hi : i < k
  · rw [Nat.testBit_mod_two_pow]
    have : k - 1 - i < m := by omega
    simp [this]
  · simp [hi]
theorem tr_tr (k x : Nat) : tr k (tr k x) = x % 2 ^ k := by
  refine Nat.eq_of_testBit_eq (fun i => ?_)
  rw [tr_bit, tr_bit, Nat.testBit_mod_two_pow]
  by_cases hi : i < k
  · have h1 : k - 1 - i < k := by omega
    have h2 : k - 1 - (k - 1 - i) = i := by omega
    simp [hi, h1, h2]
  · simp [hi]
theorem tr_add (a b x y : Nat) (hx : x < 2 ^ a) : tr (a + b) (2 ^ a * y + x) = 2 ^ b * tr a x + tr b y := by
  refine Nat.eq_of_testBit_eq (fun i => ?_)
  rw [tr_bit, Nat.testBit_two_pow_mul_add _ hx, Nat.testBit_two_pow_mul_add _ (tr_lt b y), tr_bit, tr_bit]
  by_cases h1 : i < b
  · have h2 : i < a + b := by omega
    have h3 : ¬ a + b - 1 - i < a := by omega
    have h4 : a + b - 1 - i - a = b - 1 - i := by omega
    rw [if_pos h1, if_neg h3, h4]
    simp [h1, h2]
  · by_cases h2 : i < a + b
    · have h3 : a + b - 1 - i < a := by omega
      have h4 : i - b < a := by omega
      have h5 : a - 1 - (i - b) = a + b - 1 - i := by omega
      rw [if_neg h1, if_pos h3, h5]
      simp [h2, h4]
    · have h4 : ¬ i - b < a := by omega
      rw [if_neg h1]
      simp [h2, h4]
theorem tr_zero (k : Nat) : tr k 0 = 0 := by
  refine Nat.eq_of_testBit_eq (fun i => ?_)
  rw [tr_bit]; simp
theorem tr_ones (k : Nat) : tr k (2 ^ k - 1) = 2 ^ k - 1 := by
  refine Nat.eq_of_testBit_eq (fun i => ?_)
  rw [tr_bit, Nat.testBit_two_pow_sub_one, Nat.testBit_two_pow_sub_one]
  by_cases h1 : i < k
  · have : k - 1 - i < k := by omega
    simp [h1, this]
  · simp [h1]

/-- the next cursor in a table of 2^k buckets -/
def aft (k c : Nat) : Nat := if tr k c + 1 = 2 ^ k then 0 else tr k (tr k c + 1)
theorem aft_raw (k b N c : Nat) (hN : N = k + b) : tr N ((tr N (2 ^ k * (2 ^ b - 1) + c % 2 ^ k) + 1) % 2 ^ N) = aft k c := by
  have hp : 0 < 2 ^ b := Nat.two_pow_pos _
  have h1 : tr N (2 ^ k * (2 ^ b - 1) + c % 2 ^ k) = 2 ^ b * tr k c + (2 ^ b - 1) := by
    rw [hN, tr_add k b _ _ (Nat.mod_lt _ (Nat.two_pow_pos k)), tr_ones, tr_mod k c k (Nat.le_refl _)]
  have h2 : 2 ^ b * tr k c + (2 ^ b - 1) + 1 = 2 ^ b * (tr k c + 1) := by
    rw [Nat.mul_add]; omega
  have h3 : 2 ^ N = 2 ^ b * 2 ^ k := by rw [hN, Nat.add_comm, Nat.pow_add]
  rw [h1, h2, h3]
  unfold aft
  have hl := tr_lt k c
  by_cases h : tr k c + 1 = 2 ^ k
  · rw [if_pos h, h, Nat.mod_self, tr_zero]
  · have hlt : 2 ^ b * (tr k c + 1) < 2 ^ b * 2 ^ k := Nat.mul_lt_mul_of_pos_left (Nat.lt_of_le_of_ne hl h) hp
    rw [if_neg h, Nat.mod_eq_of_lt hlt]
    have e := tr_add b k 0 (tr k c + 1) hp
    rw [Nat.add_zero, tr_zero, Nat.mul_zero, Nat.zero_add, Nat.add_comm b k, ← hN] at e
    exact e
theorem aft_lt (k c : Nat) : aft k c < 2 ^ k := by
  unfold aft
  split
  · exact Nat.two_pow_pos k
  · exact tr_lt k _
theorem aft_mod (k c : Nat) : aft k (c % 2 ^ k) = aft k c := by unfold aft; rw [tr_mod k c k (Nat.le_refl _)]
/-- the i-th cursor from 0 on is tr k i -/
theorem aft_tr (k i : Nat) (h : i < 2 ^ k) : aft k (tr k i) = if i + 1 = 2 ^ k then 0 else tr k (i + 1) := by
  unfold aft
  rw [tr_tr, Nat.mod_eq_of_lt h]
theorem rev_bit (x : UInt64) : ∀ i, i < 64 → (rev x).toBitVec.getLsbD i = x.toBitVec.getLsbD (63 - i) := by
  intro i hi
  unfold rev revb rs
  simp only [UInt64.toBitVec_or, UInt64.toBitVec_and, UInt64.toBitVec_shiftLeft, UInt64.toBitVec_shiftRight]
  generalize x.toBitVec = v
  have h : i = 0 ∨ i = 1 ∨ i = 2 ∨ i = 3 ∨ i = 4 ∨ i = 5 ∨ i = 6 ∨ i = 7 ∨ i = 8 ∨ i = 9 ∨ i = 10 ∨ i = 11 ∨ i = 12 ∨ i = 13 ∨ i = 14 ∨ i = 15 ∨ i = 16 ∨ i = 17 ∨ i = 18 ∨ i = 19 ∨ i = 20 ∨ i = 21 ∨ i = 22 ∨ i = 23 ∨ i = 24 ∨ i = 25 ∨ i = 26 ∨ i = 27 ∨ i = 28 ∨ i = 29 ∨ i = 30 ∨ i = 31 ∨ i = 32 ∨ i = 33 ∨ i = 34 ∨ i = 35 ∨ i = 36 ∨ i = 37 ∨ i = 38 ∨ i = 39 ∨ i = 40 ∨ i = 41 ∨ i = 42 ∨ i = 43 ∨ i = 44 ∨ i = 45 ∨ i = 46 ∨ i = 47 ∨ i = 48 ∨ i = 49 ∨ i = 50 ∨ i = 51 ∨ i = 52 ∨ i = 53 ∨ i = 54 ∨ i = 55 ∨ i = 56 ∨ i = 57 ∨ i = 58 ∨ i = 59 ∨ i = 60 ∨ i = 61 ∨ i = 62 ∨ i = 63 := by omega
  rcases h with rfl | rfl | rfl | rfl | rfl | rfl | rfl | rfl | rfl | rfl | rfl | rfl | rfl | rfl | rfl | rfl | rfl | rfl | rfl | rfl | rfl | rfl | rfl | rfl | rfl | rfl | rfl | rfl | rfl | rfl | rfl | rfl | rfl | rfl | rfl | rfl | rfl | rfl | rfl | rfl | rfl | rfl | rfl | rfl | rfl | rfl | rfl | rfl | rfl | rfl | rfl | rfl | rfl | rfl | rfl | rfl | rfl | rfl | rfl | rfl | rfl | rfl | rfl | rfl
  all_goals simp
theorem rev_tr (x : UInt64) : (rev x).toNat = tr 64 x.toNat := by
  refine Nat.eq_of_testBit_eq (fun i => ?_)
  rw [tr_bit]
  by_cases hi : i < 64
  · have := rev_bit x i hi
    simp only [BitVec.getLsbD, UInt64.toNat_toBitVec] at this
    rw [this]; simp [hi]
  · have hlt : (rev x).toNat < 2 ^ i := Nat.lt_of_lt_of_le (rev x).toNat_lt (Nat.pow_le_pow_right (by decide) (by omega))
    rw [Nat.testBit_lt_two_pow hlt]; simp [hi]
end Go.Proofs.Ytkecipdonamjaaa

/- The walk of scan.After and of the document's After: what both compute. -/
import Derived.Test.YtkecipdonamjaaaRev
import Derived.Test.YtkecipdonamjaaaHeap
namespace Go.Proofs.Ytkecipdonamjaaa
open Go.RowKit

/-- how many digits of a cursor count -/
def lg (b : Int) : Nat := if 1 < b then Lib.bitLen b.toNat - 1 else 0
def msk (k : Nat) : UInt64 := UInt64.ofNat (2 ^ 64 - 2 ^ k)
theorem msk_nat (k : Nat) : (msk k).toNat = 2 ^ 64 - 2 ^ k := by
  unfold msk
  rw [UInt64.toNat_ofNat', Nat.mod_eq_of_lt]
  have := Nat.two_pow_pos k; omega
theorem or_msk (c : UInt64) (k : Nat) (hk : k ≤ 64) : (c ||| msk k).toNat = 2 ^ k * (2 ^ (64 - k) - 1) + c.toNat % 2 ^ k := by
  have e : 2 ^ 64 - 2 ^ k = 2 ^ k * (2 ^ (64 - k) - 1) := by
    rw [Nat.mul_sub, ← Nat.pow_add, Nat.mul_one]; congr 2; omega
  rw [UInt64.toNat_or, msk_nat, e]
  refine Nat.eq_of_testBit_eq (fun i => ?_)
  rw [Nat.testBit_two_pow_mul_add _ (Nat.mod_lt _ (Nat.two_pow_pos k)), Nat.testBit_or, Nat.testBit_two_pow_mul, Nat.testBit_mod_two_pow, Nat.testBit_two_pow_sub_one]
  by_cases h : i < k
  · have h2 : ¬ k ≤ i := by omega
    simp [h, h2]
  · by_cases h3 : i < 64
    · have h2 : k ≤ i := by omega
      have h4 : i - k < 64 - k := by omega
      simp [h, h2, h4]
    · have h4 : ¬ i - k < 64 - k := by omega
      have h5 : c.toNat.testBit i = false := Nat.testBit_lt_two_pow (Nat.lt_of_lt_of_le c.toNat_lt (Nat.pow_le_pow_right (by decide) (by omega)))
      simp [h, h4, h5]
theorem rev_aft (c : UInt64) (k : Nat) (hk : k ≤ 64) : (rev (rev (c ||| msk k) + 1)).toNat = aft k c.toNat := by
  rw [rev_tr, UInt64.toNat_add, rev_tr, or_msk c k hk]
  exact aft_raw k (64 - k) 64 c.toNat (by omega)
theorem wd_msk (k : Nat) (hk : k ≤ 64) : IntKind.u64.wrap (18446744073709551615 * 2 ^ k) = wd (msk k) := by
  unfold wd
  rw [IntKind.wrap_u64, msk_nat]
  have h1 : ((2 : Int) ^ k) = ((2 ^ k : Nat) : Int) := by simp
  have h2 : 2 ^ k ≤ 2 ^ 64 := Nat.pow_le_pow_right (by decide) hk
  have h3 := Nat.two_pow_pos k
  rw [h1]
  generalize 2 ^ k = P at h2 h3 ⊢
  omega
theorem wd_add1 (x : UInt64) : IntKind.u64.wrap (wd x + 1) = wd (x + 1) := by
  unfold wd; rw [IntKind.wrap_u64, UInt64.toNat_add]; rfl
theorem lg_le (b : Int) (h1 : b ≤ 9223372036854775807) : lg b ≤ 62 := by
  unfold lg
  split
  · have := Lib.bitLen_le b.toNat 63 (by decide) (by omega); omega
  · omega
theorem val_i64 {a b : Int} (h : a = b) : Value.int .i64 a = Value.int .i64 b := by rw [h]
set_option maxHeartbeats 400000 in
theorem after_any (c : UInt64) (b : Int) (w : World) (h1 : b ≤ 9223372036854775807) :
    Calls Try.prog 18 #[.int .u64 (wd c), .int .i64 b] w fun e w' => e = .returned (.int .u64 (aft (lg b) c.toNat : Nat)) ∧ w = w' := by
  have hl := lg_le b h1
  obtain ⟨k, hk⟩ : ∃ k, lg b = k := ⟨_, rfl⟩
  have hr := rev_aft c k (by omega)
  by_cases hb : 1 < b
  · have hB : Lib.bitLen b.toNat = k + 1 := by
      have := Lib.bitLen_half b.toNat (by omega) (by omega)
      unfold lg at hk; rw [if_pos hb] at hk; omega
    rw [hk] at hl ⊢
    clear hk
    have HR := Lib.hid hr; clear hr
    have HB := Lib.hid hB; clear hB
    go_enter Try.func18, Try.ntmps18
    go_wp2_with fail
    refine (len_int b w (by omega) (by omega)).mono ?_
    rintro e w' ⟨rfl, rfl⟩
    rw [HB.out]
    go_wp2_with fail
    refine (rev_at (c ||| msk k) _ (by rw [wd_msk k (by omega), wd_or]) w).mono ?_
    rintro e w' ⟨rfl, rfl⟩
    go_wp2_with fail
    refine (rev_at (rev (c ||| msk k) + 1) _ (wd_add1 _) w).mono ?_
    rintro e w' ⟨rfl, rfl⟩
    go_wp2
    go_ret
    refine ⟨ret_u64 ?_, rfl⟩
    rw [← HR.out]; rfl
  · have hk0 : k = 0 := by unfold lg at hk; rw [if_neg hb] at hk; exact hk.symm
    subst hk0
    rw [hk]
    clear hk
    have HR := Lib.hid hr; clear hr
    go_enter Try.func18, Try.ntmps18
    go_wp2_with fail
    refine (rev_at (c ||| msk 0) _ (wd_or _ _) w).mono ?_
    rintro e w' ⟨rfl, rfl⟩
    go_wp2_with fail
    refine (rev_at (rev (c ||| msk 0) + 1) _ (wd_add1 _) w).mono ?_
    rintro e w' ⟨rfl, rfl⟩
    go_wp2
    go_ret
    refine ⟨ret_u64 ?_, rfl⟩
    rw [← HR.out]; rfl
def trs : Nat → Nat → Nat → Nat
  | 0, _, r => r
  | k + 1, x, r => trs k (x / 2) (2 * r + x % 2)
theorem trs_tr : ∀ k x r, trs k x r = 2 ^ k * r + tr k x := by
  intro k
  induction k with
  | zero => intro x r; simp [trs, tr]
  | succ k ih =>
    intro x r
    unfold trs tr
    rw [ih, Nat.pow_succ, Nat.mul_add]
    have : 2 ^ k * (2 * r) = 2 ^ k * 2 * r := (Nat.mul_assoc _ _ _).symm
    omega
theorem turned_any (k x : Nat) (w : World) (hk : k ≤ 62) (hx : x < 2 ^ k) :
    Calls Try.prog 62 #[.int .i64 x, .int .i64 (2 ^ k : Nat)] w fun e w' => e = .returned (.int .i64 (tr k x : Nat)) ∧ w = w' := by
  obtain ⟨n, hn⟩ : ∃ n, n = 2 ^ k := ⟨_, rfl⟩
  have hx62 : x < 4611686018427387904 := Nat.lt_of_lt_of_le hx (show 2 ^ k ≤ 2 ^ 62 from Nat.pow_le_pow_right (by decide) hk)
  have hn62 : n ≤ 4611686018427387904 := by rw [hn]; exact Nat.pow_le_pow_right (show 0 < 2 by decide) hk
  rw [← hn]
  have HN := Lib.hid hn; clear hn
  clear hx
  go_enter Try.func62, Try.ntmps62
  go_wp2
  go_loop [0, 1, 5] (fun a b r => ∃ j y m q : Nat, Hid (m = 2 ^ j) ∧ a = .int .i64 y ∧ b = .int .i64 m ∧ r = .int .i64 q ∧ j ≤ k ∧ Hid (trs j y q = tr k x) ∧ y < 4611686018427387904 ∧ m ≤ 4611686018427387904 ∧ Hid (q < 2 ^ (k - j))) (fun a b r => (intOf b).toNat)
  case atStart => exact ⟨k, x, n, 0, HN, rfl, rfl, rfl, Nat.le_refl _, (show trs k x 0 = tr k x by rw [trs_tr, Nat.mul_zero, Nat.zero_add]), hx62, hn62, (show 0 < 2 ^ (k - k) from Nat.two_pow_pos _)⟩
  case round =>
    obtain ⟨j, y, m, q, h1, rfl, rfl, rfl, h4, h5, h6, h7, h8⟩ := hrel
    cases j with
    | zero =>
      have hm : m = 1 := h1.out
      subst hm
      go_wp2
      go_ret
      refine ⟨ret_i64 ?_, rfl⟩
      exact congrArg _ h5.out
    | succ j =>
      have e1 := h1.out
      have e2 : m = 2 * 2 ^ j := by rw [e1, Nat.pow_succ, Nat.mul_comm]
      have e3 := Nat.two_pow_pos j
      have e4 : 2 ^ (k - j) = 2 * 2 ^ (k - (j + 1)) := by rw [← Nat.pow_succ']; congr 1; omega
      have e5 : 2 ^ (k - j) ≤ 2 ^ 62 := Nat.pow_le_pow_right (by decide) (by omega)
      have e6 := h8.out
      have hm1 : 1 < m := by omega
      have hq : q < 2305843009213693952 := by omega
      have hhalf : m / 2 = 2 ^ j := by omega
      have hq2 : 2 * q + y % 2 < 2 ^ (k - j) := by omega
      have HH := Lib.hid hhalf; clear hhalf
      have HQ := Lib.hid hq2; clear hq2
      clear e1 e2 e3 e4 e5 e6
      go_wp2
      go_round
      case rel =>
        refine ⟨j, y / 2, m / 2, 2 * q + y % 2, HH, ?_, ?_, ?_, by omega, h5, by omega, by omega, HQ⟩
        all_goals go_num
      case measure => simp [intOf]; omega
theorem lg_of (b : Int) (k : Nat) (hk : k ≤ 62) (h1 : ((2 ^ k : Nat) : Int) ≤ b ∨ k = 0) (h2 : b < 2 * ((2 ^ k : Nat) : Int)) : lg b = k := by
  unfold lg
  by_cases hb : 1 < b
  · rw [if_pos hb]
    have h3 : ((2 ^ k : Nat) : Int) ≤ b := by
      rcases h1 with h | h
      · exact h
      · subst h; simp; omega
    have hle : 2 ^ k ≤ 2 ^ 62 := Nat.pow_le_pow_right (by decide) hk
    have e := Lib.bitLen_shift k b.toNat (by omega) (by omega)
    have hd : b.toNat / 2 ^ k = 1 := by
      have hp := Nat.two_pow_pos k
      refine Nat.div_eq_of_lt_le (by omega) (by omega)
    rw [hd] at e
    have : Lib.bitLen 1 = 1 := by decide
    omega
  · rw [if_neg hb]
    have hp := Nat.two_pow_pos k
    rcases h1 with h | h
    · cases k with
      | zero => rfl
      | succ k =>
        have := Nat.two_pow_pos k
        have h5 : 2 ^ (k + 1) = 2 ^ k * 2 := Nat.pow_succ ..
        omega
    · exact h.symm
theorem le_half (m : Nat) (n : Int) (hm : 0 < m) : ((m : Int) ≤ n.tdiv 2) ↔ (m : Int) * 2 ≤ n := by
  by_cases h : 0 ≤ n
  · rw [Int.tdiv_eq_ediv_of_nonneg h]; omega
  · have h2 : n.tdiv 2 = -((-n).tdiv 2) := by rw [Int.neg_tdiv, Int.neg_neg]
    rw [h2, Int.tdiv_eq_ediv_of_nonneg (by omega)]
    omega
theorem power_any (n : Int) (w : World) (h0 : -9223372036854775808 ≤ n) (h1 : n ≤ 9223372036854775807) :
    Calls Try.prog 61 #[.int .i64 n] w fun e w' => e = .returned (.int .i64 (2 ^ lg n : Nat)) ∧ w = w' := by
  go_enter Try.func61, Try.ntmps61
  go_wp2
  go_loop [3] (fun p => ∃ j m : Nat, Hid (m = 2 ^ j) ∧ p = .int .i64 m ∧ j ≤ 62 ∧ ((m : Int) ≤ n ∨ j = 0) ∧ m ≤ 4611686018427387904 ∧ 0 < m) (fun p => (n.toNat - (intOf p).toNat))
  case atStart => exact ⟨0, 1, rfl, rfl, by decide, .inr rfl, by decide, by decide⟩
  case round =>
    obtain ⟨j, m, e1, rfl, e2, e3, e4, e5⟩ := hrel
    by_cases hlt : (m : Int) ≤ n.tdiv 2
    · have hm : (m : Int) * 2 ≤ n := (le_half m n e5).1 hlt
      have hj : j < 62 := by
        refine Nat.lt_of_le_of_ne e2 (fun h => ?_)
        have := e1.out
        rw [h] at this
        omega
      have hm61 : m ≤ 2305843009213693952 := by rw [e1.out]; exact Nat.pow_le_pow_right (show 0 < 2 by decide) (show j ≤ 61 by omega)
      have h2 : Hid (2 * m = 2 ^ (j + 1)) := by show _ = _; rw [Nat.pow_succ, ← e1.out, Nat.mul_comm]
      go_wp2
      go_round
      case rel => exact ⟨j + 1, 2 * m, h2, by go_num, by omega, .inl (by omega), by omega, by omega⟩
      case measure => simp [intOf]; omega
    · have hl : lg n = j := lg_of n j e2 (by rw [← e1.out]; exact e3) (by rw [← e1.out]; have := mt (le_half m n e5).2 hlt; omega)
      have HL := Lib.hid hl; clear hl
      go_wp2
      go_ret
      refine ⟨ret_i64 ?_, rfl⟩
      rw [HL.out]; exact congrArg _ e1.out
theorem aft_small (k c : Nat) (h : ¬ tr k c + 1 = 2 ^ k) : aft k c = tr k (tr k c + 1) := by unfold aft; rw [if_neg h]
theorem turned_lit (k x : Nat) (a b : Int) (w : World) (hk : k ≤ 62) (hx : x < 2 ^ k) (ha : a = x) (hb : b = (2 ^ k : Nat)) :
    Calls Try.prog 62 #[.int .i64 a, .int .i64 b] w fun e w' => e = .returned (.int .i64 (tr k x : Nat)) ∧ w = w' := by
  subst ha hb; exact turned_any k x w hk hx
set_option maxHeartbeats 400000 in
theorem refAfter_any (c : UInt64) (b : Int) (w : World) (h0 : -9223372036854775808 ≤ b) (h1 : b ≤ 9223372036854775807) :
    Calls Try.prog 19 #[.int .u64 (wd c), .int .i64 b] w fun e w' => e = .returned (.int .u64 (aft (lg b) c.toNat : Nat)) ∧ w = w' := by
  have hl := lg_le b h1
  have hpow := power_any b w h0 h1
  obtain ⟨k, hk⟩ : ∃ k, lg b = k := ⟨_, rfl⟩
  rw [hk] at hl hpow ⊢
  obtain ⟨n, hn⟩ : ∃ n, n = 2 ^ k := ⟨_, rfl⟩
  have hp := Nat.two_pow_pos k
  have hle : n ≤ 4611686018427387904 := by rw [hn]; exact Nat.pow_le_pow_right (show 0 < 2 by decide) hl
  rw [← hn] at hp hpow
  have htl := tr_lt k c.toNat
  rw [← hn] at htl
  have hcm : c.toNat % n < 2 ^ k := by rw [← hn]; exact Nat.mod_lt _ hp
  have HCM := Lib.hid hcm; clear hcm
  have htm : tr k (c.toNat % n) = tr k c.toNat := by rw [hn]; exact tr_mod k _ k (Nat.le_refl _)
  have HTM := Lib.hid htm; clear htm
  have HN := Lib.hid hn; clear hn
  have HP := Lib.hid hpow; clear hpow
  clear hk
  go_enter Try.func19, Try.ntmps19
  go_wp2_with fail
  refine HP.out.mono ?_
  rintro e w' ⟨rfl, rfl⟩
  go_wp2_with fail
  refine (turned_lit k (c.toNat % n) _ _ w hl HCM.out ?_ (congrArg _ HN.out)).mono ?_
  · have e1 : (wd c).tmod (n : Int) = ((c.toNat % n : Nat) : Int) := by unfold wd; rfl
    have e2 : c.toNat % n < n := Nat.mod_lt _ hp
    rw [e1]
    unfold wrap64
    omega
  rintro e w' ⟨rfl, rfl⟩
  rw [HTM.out]
  by_cases hend : tr k c.toNat + 1 = n
  · have ha : aft k c.toNat = 0 := by unfold aft; rw [if_pos (by rw [← HN.out]; exact hend)]
    have HA := Lib.hid ha; clear ha
    have g : (((tr k c.toNat : Nat) : Int) + 1 == (n : Int)) = true := beq_iff_eq.2 (by omega)
    have HE := Lib.hid hend; clear hend
    go_wp2
    go_ret
    refine ⟨ret_u64 ?_, rfl⟩
    rw [HA.out]; rfl
  · have ha := aft_small k c.toNat (by rw [← HN.out]; exact hend)
    have hlt2 : tr k c.toNat + 1 < 2 ^ k := by rw [← HN.out]; omega
    have hr := tr_lt k (tr k c.toNat + 1)
    rw [← HN.out] at hr
    have HA := Lib.hid ha; clear ha
    have HL2 := Lib.hid hlt2; clear hlt2
    have g : (((tr k c.toNat : Nat) : Int) + 1 == (n : Int)) = false := beq_eq_false_iff_ne.2 (by omega)
    go_wp2_with fail
    refine (turned_lit k (tr k c.toNat + 1) _ _ w hl HL2.out (by go_num) (congrArg _ HN.out)).mono ?_
    rintro e w' ⟨rfl, rfl⟩
    go_wp2
    go_ret
    refine ⟨ret_u64 ?_, rfl⟩
    rw [HA.out]
end Go.Proofs.Ytkecipdonamjaaa

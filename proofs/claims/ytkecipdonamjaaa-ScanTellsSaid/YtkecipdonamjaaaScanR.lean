/- What one call of a scan tells, by the keys' places; no key that stays is missed. No condition; no program of its own. -/
import Derived.Test.YtkecipdonamjaaaScanB
namespace Go.Proofs.Ytkecipdonamjaaa
open Di
section
variable {α : Type}
theorem blk_mem (G : Nat → List α) (g a b q : Nat) (x : α) (h1 : a ≤ q) (h2 : q < b) (hx : x ∈ G (tr g q)) : x ∈ blk G g a b := by
  unfold blk
  exact List.mem_flatMap.2 ⟨q, List.mem_range'.2 ⟨q - a, by omega, by omega⟩, hx⟩
theorem TB.seg_mem (T : TB α) {i j n : Nat} (h1 : i ≤ n) (h2 : n < j) {x : α} (hx : x ∈ T.turnJ n) : x ∈ T.seg i j := by
  unfold TB.seg
  exact List.mem_flatMap.2 ⟨n, List.mem_range'.2 ⟨n - i, by omega, by omega⟩, hx⟩
/-- from any cursor: the rest of its stretch, then whole stretches -/
theorem TB.nxt_gen (T : TB α) (hr : T.r ≤ T.g) (c : Nat) (l : List α) : ∃ j', tr T.g c / 2 ^ T.r < j' ∧ j' ≤ T.J ∧ T.nxt c l = (T.cur j', l ++ T.turnK c ++ T.seg (tr T.g c / 2 ^ T.r + 1) j') := by
  obtain ⟨p, hp⟩ : ∃ p, tr T.g c = p := ⟨_, rfl⟩
  have hpl : p < 2 ^ T.g := by rw [← hp]; exact tr_lt _ _
  have hJ := T.J_mul hr
  have hn : p / 2 ^ T.r < T.J := by
    rw [Nat.div_lt_iff_lt_mul (Nat.two_pow_pos _), hJ]; exact hpl
  have hC : T.turnC c = T.cur (p / 2 ^ T.r + 1) := by
    unfold TB.turnC TB.cur
    rw [hp]
    unfold en
    by_cases h : p / 2 ^ T.r + 1 = T.J
    · rw [if_pos h, if_pos (by rw [h]; exact hJ)]
    · rw [if_neg h, if_neg]
      intro e
      rw [← hJ] at e
      exact h (Nat.eq_of_mul_eq_mul_right (Nat.two_pow_pos _) e)
  rw [T.nxt_eq hr, hC, hp]
  by_cases hc : T.cur (p / 2 ^ T.r + 1) = 0 ∨ T.cnt ≤ (l ++ T.turnK c).length
  · rw [if_pos hc]
    exact ⟨_, Nat.lt_succ_self _, hn, by rw [T.seg_nil, List.append_nil]⟩
  · rw [if_neg hc]
    obtain ⟨h1, h2⟩ := cur_pos T hr (show p / 2 ^ T.r + 1 ≤ T.J from hn) (fun e => hc (.inl e))
    rw [h2]
    obtain ⟨j', g1, g2, g3, _⟩ := T.nxt_seg hr _ _ rfl h1 (l ++ T.turnK c)
    exact ⟨j', by omega, g2, g3⟩
theorem TB.cur_lt (T : TB α) (j : Nat) : T.cur j < 2 ^ T.g := by
  unfold TB.cur
  split
  · exact Nat.two_pow_pos _
  · exact tr_lt _ _
end
/-- the digits that a table of 2^g buckets sees, read backwards -/
theorem tr_top (g h : Nat) (hg : g ≤ 64) : tr g h = tr 64 h / 2 ^ (64 - g) := by
  have h1 := lo_digits 64 g h hg
  have h2 := congrArg (tr g) h1
  rw [tr_tr, tr_mod g h g (Nat.le_refl _)] at h2
  rw [h2, Nat.mod_eq_of_lt]
  rw [Nat.div_lt_iff_lt_mul (Nat.two_pow_pos _), ← Nat.pow_add, Nat.add_sub_cancel' hg]
  exact tr_lt 64 h
theorem tr_low64 (g x : Nat) (hg : g ≤ 64) (hx : x < 2 ^ g) : tr 64 x = 2 ^ (64 - g) * tr g x := by
  have h := tr_split 64 (64 - g) x (by omega)
  rw [show 64 - (64 - g) = g by omega, Nat.mod_eq_of_lt hx, Nat.div_eq_of_lt hx, tr_zero, Nat.add_zero] at h
  exact h
def hashOf (seed : UInt64) (key : ByteArray) : UInt64 := hash seed key.data.toList
/-- where a key's hash stands, read backwards -/
def place (seed : UInt64) (key : ByteArray) : Nat := tr 64 (hashOf seed key).toNat
theorem in_table {M : DM} (h : Inv M) {e : E} (he : e ∈ entries M) : ∃ t : Nat, (t = whichM M ∨ (t = 1 - whichM M ∧ smallM M ≠ 0)) ∧ e.key ∈ bucketK M (t : Int) (((hashOf M.seed e.key).toNat % (tabOf M (t : Int)).length : Nat) : Int) := by
  have key : ∀ t : Nat, t = 0 ∨ t = 1 → Placed M.seed (tabOf M (t : Int)) → e ∈ (tabOf M (t : Int)).flatten → e.key ∈ bucketK M (t : Int) (((hashOf M.seed e.key).toNat % (tabOf M (t : Int)).length : Nat) : Int) := by
    intro t ht hp hm
    obtain ⟨c, hc, hec⟩ := List.mem_flatten.1 hm
    obtain ⟨i, hi, hic⟩ := List.getElem_of_mem hc
    have hci : (tabOf M (t : Int))[i]? = some c := by rw [List.getElem?_eq_getElem hi, hic]
    have hs := hp i c hci e hec
    unfold bucketK
    rw [if_pos ⟨by omega, by omega⟩, Int.toNat_natCast, show (hashOf M.seed e.key).toNat % (tabOf M (t : Int)).length = i from hs, hci]
    exact List.mem_map.2 ⟨e, hec, rfl⟩
  have hin : e ∈ M.old.flatten ∨ e ∈ M.young.flatten := by
    unfold entries at he
    exact List.mem_append.1 he
  rcases hin with hin | hin
  · have k := key 0 (.inl rfl) h.pold hin
    refine ⟨0, ?_, k⟩
    by_cases hw : whichM M = 0
    · exact .inl hw.symm
    · have hw1 : whichM M = 1 := by have := which_01 M; omega
      refine .inr ⟨by omega, ?_⟩
      intro hs
      have := small_len M
      rw [hw1, hs] at this
      have h0 : M.old = [] := List.length_eq_zero_iff.1 this
      rw [h0] at hin
      cases hin
  · have k := key 1 (.inr rfl) h.pyoung hin
    refine ⟨1, ?_, k⟩
    by_cases hw : whichM M = 1
    · exact .inl hw.symm
    · have hw0 : whichM M = 0 := by have := which_01 M; omega
      refine .inr ⟨by omega, ?_⟩
      intro hs
      have := small_len M
      rw [hw0, hs] at this
      have h0 : M.young = [] := List.length_eq_zero_iff.1 this
      rw [h0] at hin
      cases hin
theorem great_bound {M : DM} (ho : M.old.length ≤ 35184372088832) (hy : M.young.length ≤ 35184372088832) {g : Nat} (hg : greatM M = 2 ^ g) : g ≤ 45 := by
  refine (Nat.pow_le_pow_iff_right (by decide : 1 < 2)).1 ?_
  rw [← hg]
  unfold greatM
  split <;> omega
/-- ONE CALL: each key from the cursor's place up to the next cursor's is told -/
theorem scan_tells {M : DM} (h : Inv M) (ho : M.old.length ≤ 35184372088832) (hy : M.young.length ≤ 35184372088832) (c : Nat) (count : Int) {e : E} (he : e ∈ entries M) (h1 : tr 64 c ≤ place M.seed e.key)
    (h2 : (scanK M c count).1 = 0 ∨ place M.seed e.key < tr 64 (scanK M c count).1) : e.key ∈ (scanK M c count).2 := by
  have hne : M.old ≠ [] := old_ne h (List.ne_nil_of_mem he)
  unfold scanK at h2 ⊢
  rw [if_neg hne] at h2 ⊢
  have TT := tabs h hne (max count 1).toNat
  obtain ⟨B, hB⟩ : ∃ B, scanT M (max count 1).toNat = B := ⟨_, rfl⟩
  have hG : ∀ q : Nat, B.G q = bucketK M (whichM M : Nat) (q : Int) := fun q => by rw [← hB]; rfl
  have hS : ∀ c : Nat, B.S c = if smallM M = 0 then [] else bucketK M ((1 - whichM M : Nat) : Int) ((c % smallM M : Nat) : Int) := fun q => by rw [← hB]; rfl
  rw [hB] at TT h2 ⊢
  have hg45 := great_bound ho hy TT.great
  have hg64 : B.g ≤ 64 := by omega
  obtain ⟨j', g1, g2, g3⟩ := B.nxt_gen TT.le c []
  rw [g3] at h2 ⊢
  simp only [List.nil_append] at h2 ⊢
  obtain ⟨H, hH⟩ : ∃ H, (hashOf M.seed e.key).toNat = H := ⟨_, rfl⟩
  have hpl : place M.seed e.key = tr 64 H := by unfold place; rw [hH]
  rw [hpl] at h1 h2
  obtain ⟨q, hq⟩ : ∃ q, tr B.g H = q := ⟨_, rfl⟩
  have hq2 : q = tr 64 H / 2 ^ (64 - B.g) := by rw [← hq]; exact tr_top _ _ hg64
  have hpq : tr B.g c ≤ q := by rw [hq2, tr_top _ _ hg64]; exact Nat.div_le_div_right h1
  have hql : q < 2 ^ B.g := by rw [← hq]; exact tr_lt _ _
  have hqj : q / 2 ^ B.r < j' := by
    by_cases h0 : B.cur j' = 0
    · have := cur_zero B TT.le g2 (Nat.lt_of_le_of_lt (Nat.zero_le _) g1) h0
      rw [this, Nat.div_lt_iff_lt_mul (Nat.two_pow_pos _), B.J_mul TT.le]
      exact hql
    · obtain ⟨i1, i2⟩ := cur_pos B TT.le g2 h0
      have h3 := h2.resolve_left h0
      rw [tr_low64 B.g _ hg64 (B.cur_lt j'), i2, tr_tr, Nat.mod_eq_of_lt (B.at_lt TT.le i1)] at h3
      rw [Nat.div_lt_iff_lt_mul (Nat.two_pow_pos _), hq2, Nat.div_lt_iff_lt_mul (Nat.two_pow_pos _), Nat.mul_comm _ (2 ^ (64 - B.g))]
      exact h3
  have hpn : tr B.g c / 2 ^ B.r ≤ q / 2 ^ B.r := Nat.div_le_div_right hpq
  obtain ⟨t, ht, hk⟩ := in_table h he
  rw [hH] at hk
  rw [List.mem_append]
  rcases ht with rfl | ⟨rfl, hs⟩
  · rw [great_len, TT.great] at hk
    have hk2 : e.key ∈ B.G (tr B.g q) := by
      rw [hG, ← hq, tr_tr]; exact hk
    by_cases hcase : q / 2 ^ B.r = tr B.g c / 2 ^ B.r
    · left
      unfold TB.turnK
      refine List.mem_append_right _ (blk_mem _ _ _ _ q _ hpq ?_ hk2)
      have := en_gt B.r q
      unfold en at this ⊢
      rwa [hcase] at this
    · right
      refine B.seg_mem (n := q / 2 ^ B.r) (by omega) hqj ?_
      unfold TB.turnJ
      refine List.mem_append_right _ (blk_mem _ _ _ _ q _ (Nat.div_mul_le_self _ _) ?_ hk2)
      exact en_gt B.r q
  · rw [small_len] at hk
    rcases TT.small with ⟨e0, _⟩ | ⟨s, es, hsg, er⟩
    · exact absurd e0 hs
    · have hlow : ∀ x, tr B.g x / 2 ^ B.r = q / 2 ^ B.r → x % smallM M = H % smallM M := fun x hx => by
        rw [es, lo_digits B.g s x hsg, lo_digits B.g s H hsg, hq, ← er, hx]
      by_cases hcase : q / 2 ^ B.r = tr B.g c / 2 ^ B.r
      · left
        unfold TB.turnK
        refine List.mem_append_left _ ?_
        rw [hS, if_neg hs, hlow c hcase.symm]
        exact hk
      · right
        refine B.seg_mem (n := q / 2 ^ B.r) (by omega) hqj ?_
        unfold TB.turnJ
        refine List.mem_append_left _ ?_
        rw [hS, if_neg hs, hlow]
        · exact hk
        · have hl : q / 2 ^ B.r * 2 ^ B.r < 2 ^ B.g := Nat.lt_of_le_of_lt (Nat.div_mul_le_self _ _) hql
          rw [tr_tr, Nat.mod_eq_of_lt hl, Nat.mul_div_cancel _ (Nat.two_pow_pos _)]
/-- what does not count in a cursor -/
theorem scan_fold {M : DM} (h : Inv M) (c c' : Nat) (count : Int) (hc : c % max (max M.old.length M.young.length) 1 = c' % max (max M.old.length M.young.length) 1) : scanK M c count = scanK M c' count := by
  unfold scanK
  by_cases hne : M.old = []
  · rw [if_pos hne, if_pos hne]
  · rw [if_neg hne, if_neg hne]
    have TT := tabs h hne (max count 1).toNat
    obtain ⟨B, hB⟩ : ∃ B, scanT M (max count 1).toNat = B := ⟨_, rfl⟩
    have hS : ∀ c : Nat, B.S c = if smallM M = 0 then [] else bucketK M ((1 - whichM M : Nat) : Int) ((c % smallM M : Nat) : Int) := fun q => by rw [← hB]; rfl
    rw [hB] at TT ⊢
    have hm : max (max M.old.length M.young.length) 1 = 2 ^ B.g := by
      have h1 := TT.great
      have h2 := Nat.two_pow_pos B.g
      unfold greatM at h1
      split at h1 <;> omega
    rw [hm] at hc
    have e1 : tr B.g c = tr B.g c' := by rw [← tr_mod B.g c B.g (Nat.le_refl _), hc, tr_mod B.g c' B.g (Nat.le_refl _)]
    have e2 : B.S c = B.S c' := by
      rw [hS, hS]
      by_cases hs : smallM M = 0
      · rw [if_pos hs, if_pos hs]
      · rw [if_neg hs, if_neg hs]
        rcases TT.small with ⟨e0, _⟩ | ⟨s, es, hsg, er⟩
        · exact absurd e0 hs
        · rw [es, lo_digits B.g s c hsg, lo_digits B.g s c' hsg, e1]
    have e3 : B.turnC c = B.turnC c' := by unfold TB.turnC; rw [e1]
    have e4 : B.turnK c = B.turnK c' := by unfold TB.turnK; rw [e1, e2]
    rw [B.nxt_eq TT.le, B.nxt_eq TT.le c', e3, e4]
end Go.Proofs.Ytkecipdonamjaaa

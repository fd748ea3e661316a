/- The walk of scan.Next (for a dict of whole numbers): what it tells is what the plain law tells of the dict's tables. No condition. -/
import Derived.Test.YtkecipdonamjaaaScanA
import Derived.Test.YtkecipdonamjaaaScanP
import Derived.Test.YtkecipdonamjaaaScanAfters
namespace Go.Proofs.Ytkecipdonamjaaa
open Go.RowKit Di
theorem lg_pow (k : Nat) (h : k ≤ 62) : lg (2 ^ k : Nat) = k := lg_of _ k h (.inl (Int.le_refl _)) (by have := Nat.two_pow_pos k; omega)
def greatM (M : DM) : Nat := if M.young.length < M.old.length then M.old.length else M.young.length
def smallM (M : DM) : Nat := if M.young.length < M.old.length then M.young.length else M.old.length
def whichM (M : DM) : Nat := if M.young.length < M.old.length then 0 else 1
/-- a dict's tables as they are scanned -/
def scanT (M : DM) (cnt : Nat) : TB ByteArray :=
  ⟨Nat.log2 (greatM M), if smallM M = 0 then 0 else Nat.log2 (greatM M) - Nat.log2 (smallM M), cnt, fun q => bucketK M (whichM M : Nat) (q : Int), fun c => if smallM M = 0 then [] else bucketK M ((1 - whichM M : Nat) : Int) ((c % smallM M : Nat) : Int)⟩
/-- what a scan tells of a dict -/
def scanK (M : DM) (c : Nat) (count : Int) : Nat × List ByteArray := if M.old = [] then (0, []) else (scanT M (max count 1).toNat).nxt c []
theorem log2_pow (k : Nat) : Nat.log2 (2 ^ k) = k := by
  rw [Nat.log2_eq_iff (by have := Nat.two_pow_pos k; omega)]
  exact ⟨Nat.le_refl _, Nat.pow_lt_pow_right (by decide) (by omega)⟩
structure Tabs (M : DM) (g r : Nat) : Prop where
  great : greatM M = 2 ^ g
  lg : g = Nat.log2 (greatM M)
  small : (smallM M = 0 ∧ r = 0) ∨ ∃ s, smallM M = 2 ^ s ∧ s ≤ g ∧ r = g - s
  le : r ≤ g
theorem tabs {M : DM} (h : Inv M) (ho : M.old ≠ []) (cnt : Nat) : Tabs M (scanT M cnt).g (scanT M cnt).r := by
  obtain ⟨a, ha, hal⟩ := h.sold ho
  show Tabs M (Nat.log2 (greatM M)) (if smallM M = 0 then 0 else Nat.log2 (greatM M) - Nat.log2 (smallM M))
  by_cases hy : M.young = []
  · have e1 : greatM M = 2 ^ a := by unfold greatM; rw [hy, hal, if_pos (by simp; exact Nat.two_pow_pos a)]
    have e2 : smallM M = 0 := by unfold smallM; rw [hy, hal, if_pos (by simp; exact Nat.two_pow_pos a)]; rfl
    rw [e1, e2, log2_pow, if_pos rfl]
    exact ⟨e1, by rw [e1, log2_pow], .inl ⟨e2, rfl⟩, Nat.zero_le _⟩
  · obtain ⟨b, hb, hbl⟩ := h.syoung hy
    by_cases hlt : M.young.length < M.old.length
    · have e1 : greatM M = 2 ^ a := by unfold greatM; rw [if_pos hlt, hal]
      have e2 : smallM M = 2 ^ b := by unfold smallM; rw [if_pos hlt, hbl]
      have hab : b ≤ a := by
        rw [hal, hbl] at hlt
        exact Nat.le_of_lt ((Nat.pow_lt_pow_iff_right (by decide)).1 hlt)
      rw [e1, e2, log2_pow, log2_pow, if_neg (by have := Nat.two_pow_pos b; omega)]
      exact ⟨e1, by rw [e1, log2_pow], .inr ⟨b, e2, hab, rfl⟩, Nat.sub_le _ _⟩
    · have e1 : greatM M = 2 ^ b := by unfold greatM; rw [if_neg hlt, hbl]
      have e2 : smallM M = 2 ^ a := by unfold smallM; rw [if_neg hlt, hal]
      have hab : a ≤ b := by
        rw [hal, hbl] at hlt
        exact (Nat.pow_le_pow_iff_right (by decide : 1 < 2)).1 (show 2 ^ a ≤ 2 ^ b by omega)
      rw [e1, e2, log2_pow, log2_pow, if_neg (by have := Nat.two_pow_pos a; omega)]
      exact ⟨e1, by rw [e1, log2_pow], .inr ⟨a, e2, hab, rfl⟩, Nat.sub_le _ _⟩
/-- how many keys a table has -/
theorem wt_flat (cs : List (List E)) : wt (fun i => ((cs[i]?).getD []).length) cs.length = cs.flatten.length := by
  have h : ∀ n, n ≤ cs.length → wt (fun i => ((cs[i]?).getD []).length) n = (cs.take n).flatten.length := by
    intro n
    induction n with
    | zero => intro _; rfl
    | succ n ih =>
      intro hn
      rw [wt_succ, ih (by omega), List.take_succ_eq_append_getElem (by omega), List.flatten_append, List.length_append, List.getElem?_eq_getElem (by omega)]
      simp
  rw [h _ (Nat.le_refl _), List.take_length]
theorem buck_len (M : DM) (t i : Nat) (ht : t = 0 ∨ t = 1) : (bucketK M (t : Int) (i : Int)).length = (((tabOf M t)[i]?).getD []).length := by
  unfold bucketK
  rw [if_pos ⟨by omega, by omega⟩, List.length_map, Int.toNat_natCast]
theorem wt_congr (f g : Nat → Nat) (n : Nat) (h : ∀ i, i < n → f i = g i) : wt f n = wt g n := by
  unfold wt
  congr 1
  exact List.map_congr_left (fun i hi => h i (List.mem_range.1 hi))
/-- the keys of a table by its places -/
theorem wt_table (M : DM) (t k : Nat) (ht : t = 0 ∨ t = 1) (hk : (tabOf M t).length = 2 ^ k) : wt (fun i => (bucketK M (t : Int) (tr k i : Nat)).length) (2 ^ k) = (tabOf M t).flatten.length := by
  rw [wt_tr (fun q => (bucketK M (t : Int) (q : Nat)).length) k, ← wt_flat, hk]
  exact wt_congr _ _ _ (fun i _ => buck_len M t i ht)
theorem tabs_keys (M : DM) : (tabOf M (whichM M : Nat)).flatten.length + (tabOf M ((1 - whichM M : Nat) : Int)).flatten.length = (entries M).length := by
  unfold tabOf whichM entries
  rw [List.length_append]
  split <;> simp <;> omega
theorem great_len (M : DM) : (tabOf M (whichM M : Nat)).length = greatM M := by
  unfold tabOf whichM greatM
  split <;> simp
theorem small_len (M : DM) : (tabOf M ((1 - whichM M : Nat) : Int)).length = smallM M := by
  unfold tabOf whichM smallM
  split <;> simp
theorem which_01 (M : DM) : whichM M = 0 ∨ whichM M = 1 := by unfold whichM; split <;> simp
/-- the keys of the smaller table's first places -/
def wS (M : DM) (n : Nat) : Nat := if smallM M = 0 then 0 else wt (fun i => (bucketK M ((1 - whichM M : Nat) : Int) (tr (Nat.log2 (smallM M)) i : Nat)).length) n
def wG (M : DM) (g n : Nat) : Nat := wt (fun i => (bucketK M (whichM M : Nat) (tr g i : Nat)).length) n
theorem w_bound {M : DM} {g r : Nat} (h : Inv M) (T : Tabs M g r) {p q : Nat} (hp : p ≤ 2 ^ g) (hq : q ≤ 2 ^ (g - r)) : wG M g p + wS M q ≤ M.n := by
  have h1 : wG M g p ≤ (tabOf M (whichM M : Nat)).flatten.length := by
    rw [← wt_table M (whichM M) g (which_01 M) (by rw [great_len, T.great])]
    exact wt_mono _ hp
  have h2 : wS M q ≤ (tabOf M ((1 - whichM M : Nat) : Int)).flatten.length := by
    unfold wS
    split
    · exact Nat.zero_le _
    · rename_i hs
      rcases T.small with ⟨e, _⟩ | ⟨s, e, hsg, er⟩
      · exact absurd e hs
      · rw [e, log2_pow]
        have h01 : 1 - whichM M = 0 ∨ 1 - whichM M = 1 := by have := which_01 M; omega
        rw [← wt_table M (1 - whichM M) s h01 (by rw [small_len, e])]
        refine wt_mono _ ?_
        rw [er, Nat.sub_sub_self hsg] at hq
        exact hq
  have := tabs_keys M
  rw [h.count]
  omega
theorem wS_step {M : DM} {g r : Nat} (T : Tabs M g r) (c : Nat) (hs : smallM M ≠ 0) : wS M (tr g c / 2 ^ r) + (bucketK M ((1 - whichM M : Nat) : Int) ((c % smallM M : Nat) : Int)).length = wS M (tr g c / 2 ^ r + 1) := by
  rcases T.small with ⟨e, _⟩ | ⟨s, e, hsg, er⟩
  · exact absurd e hs
  · unfold wS
    rw [if_neg hs, if_neg hs, wt_succ, e, log2_pow, lo_digits g s c hsg, er]
end Go.Proofs.Ytkecipdonamjaaa

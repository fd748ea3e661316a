/- Scanning to the end with nothing changed: what all calls together tell. No condition; no program of its own. -/
import Derived.Test.YtkecipdonamjaaaScanR
namespace Go.Proofs.Ytkecipdonamjaaa
open Di
/-- what is told from a cursor to the end -/
structure RestOf (M : DM) (c : Nat) (l : List ByteArray) : Prop where
  told : ∀ e ∈ entries M, tr 64 c ≤ place M.seed e.key → e.key ∈ l
  all : c = 0 → l.Perm ((entries M).map E.key)
  len : l.length ≤ 3 * M.n
/-- behind i calls -/
structure RS (M : DM) (cnt : Nat) (c i c' : Nat) (L : List ByteArray) : Prop where
  told : ∀ e ∈ entries M, tr 64 c ≤ place M.seed e.key → e.key ∈ L ∨ tr 64 c' ≤ place M.seed e.key
  at_ : (i = 0 ∧ c' = c ∧ L = []) ∨ ∃ j, i ≤ j ∧ 0 < j ∧ j < (scanT M cnt).J ∧ c' = (scanT M cnt).cur j ∧ L.length ≤ 2 * M.n + ((scanT M cnt).seg 0 j).length ∧ (c = 0 → L = (scanT M cnt).seg 0 j)
theorem RS.start (M : DM) (cnt c : Nat) : RS M cnt c 0 c [] := ⟨fun _ _ h => .inr h, .inl ⟨rfl, rfl, rfl⟩⟩
theorem J_le {M : DM} (h : Inv M) (cnt : Nat) : (scanT M cnt).J ≤ max 1 (M.old.length + M.young.length) := by
  by_cases ho : M.old = []
  · have hy : M.young = [] := by
      by_cases hy : M.young = []
      · exact hy
      · have := h.moving hy; rw [ho] at this; simp at this
    have : (scanT M cnt).J = 1 := by
      unfold TB.J scanT greatM
      rw [ho, hy]
      simp
    rw [this]
    exact Nat.le_max_left _ _
  · have T := tabs h ho cnt
    have h1 : (scanT M cnt).J ≤ 2 ^ (scanT M cnt).g := Nat.pow_le_pow_right (by decide) (Nat.sub_le _ _)
    rw [← T.great] at h1
    refine Nat.le_trans h1 (Nat.le_trans ?_ (Nat.le_max_right _ _))
    unfold greatM
    split <;> omega
theorem RS.lt {M : DM} {cnt c i c' : Nat} {L : List ByteArray} (h : RS M cnt c i c' L) (hi : Inv M) : i ≤ M.old.length + M.young.length := by
  have h1 := J_le hi cnt
  rcases h.at_ with ⟨rfl, _⟩ | ⟨j, h2, h3, h4, _⟩
  · exact Nat.zero_le _
  · omega
theorem turn_len {M : DM} (h : Inv M) (ho : M.old ≠ []) (cnt c : Nat) : ((scanT M cnt).turnK c).length ≤ 2 * M.n := by
  have T := tabs h ho cnt
  obtain ⟨B, hB⟩ : ∃ B, scanT M cnt = B := ⟨_, rfl⟩
  have hG : B.G = fun q : Nat => bucketK M (whichM M : Nat) (q : Int) := by rw [← hB]; rfl
  have hS : ∀ c : Nat, B.S c = if smallM M = 0 then [] else bucketK M ((1 - whichM M : Nat) : Int) ((c % smallM M : Nat) : Int) := fun q => by rw [← hB]; rfl
  rw [hB] at T ⊢
  unfold TB.turnK
  rw [List.length_append]
  have h1 : (B.S c).length ≤ M.n := by
    rw [hS]
    split
    · simp
    · exact bucketK_len h _ _
  have hpl := tr_lt B.g c
  have h2 := blk_len B.G B.g (tr B.g c) (en B.r (tr B.g c)) (Nat.le_of_lt (en_gt _ _))
  have h3 := w_bound h T (en_le B.g B.r _ T.le hpl) (Nat.zero_le _)
  have h4 : wG M B.g (en B.r (tr B.g c)) = wt (fun i => (B.G (tr B.g i)).length) (en B.r (tr B.g c)) := by unfold wG; rw [hG]
  omega
theorem seg_len {M : DM} (h : Inv M) (ho : M.old ≠ []) (cnt j : Nat) (hj : j ≤ (scanT M cnt).J) : ((scanT M cnt).seg 0 j).length ≤ M.n := by
  have hp := (seg_all h ho cnt).length_eq
  rw [List.length_map, ← h.count] at hp
  rw [← hp, (scanT M cnt).seg_append (Nat.zero_le j) hj, List.length_append]
  omega
theorem RS.step {M : DM} {count : Int} {c i c' : Nat} {L : List ByteArray} (h : RS M (max count 1).toNat c i c' L) (hi : Inv M) (hol : M.old.length ≤ 35184372088832) (hyl : M.young.length ≤ 35184372088832) :
    (L ++ (scanK M c' count).2).length ≤ 3 * M.n ∧ ((scanK M c' count).1 = 0 → RestOf M c (L ++ (scanK M c' count).2)) ∧ ((scanK M c' count).1 ≠ 0 → RS M (max count 1).toNat c (i + 1) (scanK M c' count).1 (L ++ (scanK M c' count).2)) := by
  have htell : ∀ e ∈ entries M, tr 64 c ≤ place M.seed e.key → e.key ∈ L ++ (scanK M c' count).2 ∨ ((scanK M c' count).1 ≠ 0 ∧ tr 64 (scanK M c' count).1 ≤ place M.seed e.key) := by
    intro e he hc
    rcases h.told e he hc with h1 | h1
    · exact .inl (List.mem_append_left _ h1)
    · by_cases hz : (scanK M c' count).1 = 0
      · exact .inl (List.mem_append_right _ (scan_tells hi hol hyl c' count he h1 (.inl hz)))
      · by_cases hp : place M.seed e.key < tr 64 (scanK M c' count).1
        · exact .inl (List.mem_append_right _ (scan_tells hi hol hyl c' count he h1 (.inr hp)))
        · exact .inr ⟨hz, Nat.le_of_not_lt hp⟩
  by_cases ho : M.old = []
  · have hk : scanK M c' count = (0, []) := by unfold scanK; rw [if_pos ho]
    have hJ := J_le hi (max count 1).toNat
    have hy : M.young = [] := by
      by_cases hy : M.young = []
      · exact hy
      · have := hi.moving hy; rw [ho] at this; simp at this
    have hE : entries M = [] := by unfold entries; rw [ho, hy]; rfl
    rw [ho, hy] at hJ
    have hL : L = [] := by
      rcases h.at_ with ⟨_, _, h1⟩ | ⟨j, h2, h3, h4, _⟩
      · exact h1
      · simp at hJ; omega
    rw [hk, hL]
    refine ⟨by simp, fun _ => ⟨fun e he => (by rw [hE] at he; cases he), (fun _ => by rw [hE]; exact List.Perm.refl _), by simp⟩, fun h => absurd rfl h⟩
  · have T := tabs hi ho (max count 1).toNat
    have hsa := seg_all hi ho (max count 1).toNat
    have hsl := seg_len hi ho (max count 1).toNat
    have htl := turn_len hi ho (max count 1).toNat c'
    have hk : scanK M c' count = (scanT M (max count 1).toNat).nxt c' [] := by unfold scanK; rw [if_neg ho]
    obtain ⟨B, hB⟩ : ∃ B, scanT M (max count 1).toNat = B := ⟨_, rfl⟩
    have hat := h.at_
    rw [hB] at T hsa hsl htl hk hat
    have hJ0 : 0 < B.J := Nat.two_pow_pos _
    -- where the call ends
    have key : ∃ j', i < j' ∧ 0 < j' ∧ j' ≤ B.J ∧ (scanK M c' count).1 = B.cur j' ∧ (L ++ (scanK M c' count).2).length ≤ 2 * M.n + (B.seg 0 j').length ∧ (c = 0 → L ++ (scanK M c' count).2 = B.seg 0 j') := by
      rcases hat with ⟨rfl, rfl, rfl⟩ | ⟨j, h2, h3, h4, rfl, h6, h7⟩
      · obtain ⟨j', g1, g2, g3⟩ := B.nxt_gen T.le c' []
        rw [hk, g3]
        have hj0 : 0 < j' := Nat.lt_of_le_of_lt (Nat.zero_le _) g1
        refine ⟨j', hj0, hj0, g2, rfl, ?_, ?_⟩
        · have h8 : (B.seg (tr B.g c' / 2 ^ B.r + 1) j').length ≤ (B.seg 0 j').length := by
            rw [B.seg_append (Nat.zero_le (tr B.g c' / 2 ^ B.r + 1)) g1, List.length_append]; exact Nat.le_add_left _ _
          simp only [List.nil_append, List.length_append]
          omega
        · intro hc
          subst hc
          have h0 : tr B.g 0 = tr B.g (0 * 2 ^ B.r) := by rw [Nat.zero_mul]
          have h9 := (B.turn_at T.le hJ0).1
          rw [Nat.zero_mul, tr_zero] at h9
          rw [tr_zero, Nat.zero_div, List.nil_append, List.nil_append, h9, ← B.seg_succ hj0]
      · obtain ⟨hj1, hj2⟩ : j < B.J ∧ B.cur j = tr B.g (j * 2 ^ B.r) := ⟨h4, by unfold TB.cur; rw [if_neg (by omega)]⟩
        obtain ⟨j', g1, g2, g3, _⟩ := B.nxt_seg T.le _ j rfl hj1 []
        rw [hk, hj2, g3]
        have h8 : B.seg 0 j' = B.seg 0 j ++ B.seg j j' := B.seg_append (Nat.zero_le _) (by omega)
        refine ⟨j', by omega, by omega, g2, rfl, ?_, ?_⟩
        · rw [h8]
          simp only [List.nil_append, List.length_append]
          omega
        · intro hc
          rw [h8, h7 hc]
          rfl
    obtain ⟨j', k1, k2, k3, k4, k5, k6⟩ := key
    refine ⟨by have := hsl j' k3; omega, fun hz => ?_, fun hz => ?_⟩
    · refine ⟨fun e he hc => (htell e he hc).resolve_right (fun hh => hh.1 hz), fun hc => ?_, by have := hsl j' k3; omega⟩
      rw [k4] at hz
      have := cur_zero B T.le k3 k2 hz
      rw [k6 hc, this]
      exact hsa
    · refine ⟨fun e he hc => (htell e he hc).imp id (fun hh => hh.2), .inr ⟨j', ?_⟩⟩
      rw [hB]
      have hlt : j' < B.J := by
        rw [k4] at hz
        exact (cur_pos B T.le k3 hz).1
      exact ⟨by omega, k2, hlt, k4, k5, k6⟩
end Go.Proofs.Ytkecipdonamjaaa

/- What scanning tells of a table that does not change: each key just once. No condition; no program of its own. -/
import Derived.Test.YtkecipdonamjaaaScanN
namespace Go.Proofs.Ytkecipdonamjaaa
open Di
theorem flatMap_same {β γ : Type} {l : List β} {f g : β → List γ} (h : ∀ x, x ∈ l → f x = g x) : l.flatMap f = l.flatMap g := by
  induction l with
  | nil => rfl
  | cons x l ih => rw [List.flatMap_cons, List.flatMap_cons, h x (List.mem_cons_self ..), ih (fun y hy => h y (List.mem_cons_of_mem _ hy))]
section
variable {α : Type}
/-- the j-th stretch, told in one turn -/
def TB.turnJ (T : TB α) (j : Nat) : List α := T.S (tr T.g (j * 2 ^ T.r)) ++ blk T.G T.g (j * 2 ^ T.r) ((j + 1) * 2 ^ T.r)
def TB.J (T : TB α) : Nat := 2 ^ (T.g - T.r)
/-- the cursor ahead of the j-th stretch; 0 behind the last -/
def TB.cur (T : TB α) (j : Nat) : Nat := if j = T.J then 0 else tr T.g (j * 2 ^ T.r)
def TB.seg (T : TB α) (i j : Nat) : List α := (List.range' i (j - i)).flatMap T.turnJ
theorem TB.J_mul (T : TB α) (hr : T.r ≤ T.g) : T.J * 2 ^ T.r = 2 ^ T.g := by unfold TB.J; rw [← Nat.pow_add, Nat.sub_add_cancel hr]
theorem TB.at_lt (T : TB α) (hr : T.r ≤ T.g) {j : Nat} (hj : j < T.J) : j * 2 ^ T.r < 2 ^ T.g := by
  rw [← T.J_mul hr]; exact Nat.mul_lt_mul_of_pos_right hj (Nat.two_pow_pos _)
theorem en_at (r j : Nat) : en r (j * 2 ^ r) = (j + 1) * 2 ^ r := by unfold en; rw [Nat.mul_div_cancel _ (Nat.two_pow_pos r)]
theorem TB.turn_at (T : TB α) (hr : T.r ≤ T.g) {j : Nat} (hj : j < T.J) : T.turnK (tr T.g (j * 2 ^ T.r)) = T.turnJ j ∧ T.turnC (tr T.g (j * 2 ^ T.r)) = T.cur (j + 1) := by
  have hl := T.at_lt hr hj
  unfold TB.turnK TB.turnC TB.turnJ TB.cur
  rw [tr_tr, Nat.mod_eq_of_lt hl, en_at]
  refine ⟨rfl, ?_⟩
  by_cases h : j + 1 = T.J
  · rw [if_pos h, if_pos (by rw [h]; exact T.J_mul hr)]
  · rw [if_neg h, if_neg]
    intro e
    rw [← T.J_mul hr] at e
    exact h (Nat.eq_of_mul_eq_mul_right (Nat.two_pow_pos _) e)
theorem TB.seg_succ (T : TB α) {i j : Nat} (h : i < j) : T.seg i j = T.turnJ i ++ T.seg (i + 1) j := by
  unfold TB.seg
  rw [show j - i = (j - (i + 1)) + 1 by omega, List.range'_succ, List.flatMap_cons]
theorem TB.seg_nil (T : TB α) (i : Nat) : T.seg i i = [] := by unfold TB.seg; rw [Nat.sub_self]; rfl
theorem TB.seg_append (T : TB α) {i j k : Nat} (h : i ≤ j) (h2 : j ≤ k) : T.seg i k = T.seg i j ++ T.seg j k := by
  unfold TB.seg
  rw [← List.flatMap_append]
  congr 1
  have := List.range'_append (s := i) (m := j - i) (n := k - j) (step := 1)
  rw [Nat.one_mul, show i + (j - i) = j by omega, show j - i + (k - j) = k - i by omega] at this
  exact this.symm
theorem cur_pos (T : TB α) (hr : T.r ≤ T.g) {j : Nat} (hj : j ≤ T.J) (h : T.cur j ≠ 0) : j < T.J ∧ T.cur j = tr T.g (j * 2 ^ T.r) := by
  unfold TB.cur at h ⊢
  by_cases he : j = T.J
  · rw [if_pos he] at h; exact absurd rfl h
  · rw [if_neg he]; exact ⟨by omega, rfl⟩
theorem cur_zero (T : TB α) (hr : T.r ≤ T.g) {j : Nat} (hj : j ≤ T.J) (h0 : 0 < j) (h : T.cur j = 0) : j = T.J := by
  unfold TB.cur at h
  by_cases he : j = T.J
  · exact he
  · rw [if_neg he] at h
    have hl := T.at_lt hr (show j < T.J by omega)
    have := congrArg (tr T.g) h
    rw [tr_tr, tr_zero, Nat.mod_eq_of_lt hl] at this
    have hp : 0 < j * 2 ^ T.r := Nat.mul_pos h0 (Nat.two_pow_pos _)
    omega
/-- from the j-th stretch on: whole stretches, at least one -/
theorem TB.nxt_seg (T : TB α) (hr : T.r ≤ T.g) : ∀ n j, T.J - j = n → j < T.J → ∀ l, ∃ j', j < j' ∧ j' ≤ T.J ∧ T.nxt (tr T.g (j * 2 ^ T.r)) l = (T.cur j', l ++ T.seg j j') ∧ (j' < T.J → T.cnt ≤ (l ++ T.seg j j').length) := by
  intro n
  induction n with
  | zero => intro j h hj; omega
  | succ n ih =>
    intro j h hj l
    obtain ⟨e1, e2⟩ := T.turn_at hr hj
    have hs : T.seg j (j + 1) = T.turnJ j := by rw [T.seg_succ (by omega), T.seg_nil, List.append_nil]
    rw [T.nxt_eq hr, e1, e2]
    by_cases hc : T.cur (j + 1) = 0 ∨ T.cnt ≤ (l ++ T.turnJ j).length
    · rw [if_pos hc]
      refine ⟨j + 1, by omega, by omega, by rw [hs], fun hlt => ?_⟩
      rw [hs]
      rcases hc with hc | hc
      · exact absurd (cur_zero T hr (by omega) (by omega) hc) (by omega)
      · exact hc
    · rw [if_neg hc]
      obtain ⟨hj1, hcur⟩ := cur_pos T hr (show j + 1 ≤ T.J by omega) (fun e => hc (.inl e))
      rw [hcur]
      obtain ⟨j', g1, g2, g3, g4⟩ := ih (j + 1) (by omega) hj1 (l ++ T.turnJ j)
      have hcat : l ++ T.turnJ j ++ T.seg (j + 1) j' = l ++ T.seg j j' := by rw [T.seg_succ (show j < j' by omega), List.append_assoc]
      exact ⟨j', by omega, g2, by rw [g3, hcat], fun hlt => by rw [← hcat]; exact g4 hlt⟩
theorem flatMap_two {β γ : Type} (l : List β) (f g : β → List γ) : (l.flatMap fun x => f x ++ g x).Perm (l.flatMap f ++ l.flatMap g) := by
  induction l with
  | nil => exact List.Perm.refl _
  | cons x l ih =>
    simp only [List.flatMap_cons]
    refine ((List.Perm.append_left (f x ++ g x) ih)).trans ?_
    rw [List.append_assoc, List.append_assoc]
    refine List.Perm.append_left (f x) ?_
    rw [← List.append_assoc, ← List.append_assoc]
    exact List.Perm.append_right _ List.perm_append_comm
theorem blk_seg (G : Nat → List α) (g r : Nat) : ∀ n j, (List.range' j n).flatMap (fun i => blk G g (i * 2 ^ r) ((i + 1) * 2 ^ r)) = blk G g (j * 2 ^ r) ((j + n) * 2 ^ r) := by
  intro n
  induction n with
  | zero => intro j; rw [Nat.add_zero, blk_nil]; rfl
  | succ n ih =>
    intro j
    rw [List.range'_succ, List.flatMap_cons, ih (j + 1), ← blk_append _ _ _ _ _ (Nat.mul_le_mul_right _ (by omega)) (Nat.mul_le_mul_right _ (by omega)), show j + 1 + n = j + (n + 1) by omega]
theorem blk_all (G : Nat → List α) (g : Nat) : (blk G g 0 (2 ^ g)).Perm ((List.range (2 ^ g)).flatMap G) := by
  unfold blk
  rw [Nat.sub_zero, ← List.range_eq_range']
  have h := (tr_perm g).flatMap_right G
  rw [List.flatMap_map] at h
  exact h
end
theorem flat_keys (M : DM) (t : Nat) (ht : t = 0 ∨ t = 1) : (List.range (tabOf M t).length).flatMap (fun q : Nat => bucketK M (t : Int) (q : Int)) = (tabOf M t).flatten.map E.key := by
  have h : ∀ n, n ≤ (tabOf M t).length → (List.range n).flatMap (fun q : Nat => bucketK M (t : Int) (q : Int)) = ((tabOf M t).take n).flatten.map E.key := by
    intro n
    induction n with
    | zero => intro _; rfl
    | succ n ih =>
      intro hn
      rw [List.range_succ, List.flatMap_append, ih (by omega), List.take_succ_eq_append_getElem (by omega), List.flatten_append, List.map_append]
      congr 1
      rw [List.flatMap_cons, List.flatMap_nil, List.append_nil, List.flatten_cons, List.flatten_nil, List.append_nil]
      unfold bucketK
      rw [if_pos ⟨by omega, by omega⟩, Int.toNat_natCast, List.getElem?_eq_getElem (by omega)]
      rfl
  rw [h _ (Nat.le_refl _), List.take_length]
/-- all stretches together: each key once -/
theorem seg_all {M : DM} (h : Inv M) (ho : M.old ≠ []) (cnt : Nat) : ((scanT M cnt).seg 0 (scanT M cnt).J).Perm ((entries M).map E.key) := by
  have T := tabs h ho cnt
  obtain ⟨B, hB⟩ : ∃ B, scanT M cnt = B := ⟨_, rfl⟩
  have hG : B.G = fun q : Nat => bucketK M (whichM M : Nat) (q : Int) := by rw [← hB]; rfl
  have hS : ∀ c : Nat, B.S c = if smallM M = 0 then [] else bucketK M ((1 - whichM M : Nat) : Int) ((c % smallM M : Nat) : Int) := fun q => by rw [← hB]; rfl
  rw [hB] at T ⊢
  have hJ := B.J_mul T.le
  unfold TB.seg TB.turnJ
  rw [Nat.sub_zero]
  refine (flatMap_two _ _ _).trans ?_
  rw [blk_seg B.G B.g B.r B.J 0, Nat.zero_mul, Nat.zero_add, hJ]
  have hgreat : (blk B.G B.g 0 (2 ^ B.g)).Perm ((tabOf M (whichM M : Nat)).flatten.map E.key) := by
    have h1 := blk_all B.G B.g
    have h2 := flat_keys M (whichM M) (which_01 M)
    rw [great_len, T.great, ← hG] at h2
    rw [h2] at h1
    exact h1
  have hsmall : ((List.range' 0 B.J).flatMap fun j => B.S (tr B.g (j * 2 ^ B.r))).Perm ((tabOf M ((1 - whichM M : Nat) : Int)).flatten.map E.key) := by
    have h01 : 1 - whichM M = 0 ∨ 1 - whichM M = 1 := by have := which_01 M; omega
    rcases T.small with ⟨e, er⟩ | ⟨s, e, hsg, er⟩
    · have e0 : (tabOf M ((1 - whichM M : Nat) : Int)) = [] := List.length_eq_zero_iff.1 (by rw [small_len, e])
      rw [e0]
      have : ((List.range' 0 B.J).flatMap fun j => B.S (tr B.g (j * 2 ^ B.r))) = [] := by
        rw [List.flatMap_eq_nil_iff]
        intro j _
        rw [hS, if_pos e]
      rw [this]
      exact List.Perm.refl _
    · have hsz : smallM M ≠ 0 := by rw [e]; have := Nat.two_pow_pos s; omega
      have hJs : B.J = 2 ^ s := by unfold TB.J; rw [er, Nat.sub_sub_self hsg]
      have hf : ((List.range' 0 B.J).flatMap fun j => B.S (tr B.g (j * 2 ^ B.r))) = blk (fun q : Nat => bucketK M ((1 - whichM M : Nat) : Int) (q : Int)) s 0 (2 ^ s) := by
        unfold blk
        rw [Nat.sub_zero, hJs]
        refine flatMap_same (fun j hj => ?_)
        have hjl : j < 2 ^ s := by have := List.mem_range'.1 hj; omega
        have hjg : j * 2 ^ B.r < 2 ^ B.g := B.at_lt T.le (by rw [hJs]; exact hjl)
        rw [hS, if_neg hsz, e, lo_digits B.g s _ hsg, tr_tr, Nat.mod_eq_of_lt hjg, ← er, Nat.mul_div_cancel _ (Nat.two_pow_pos _)]
      rw [hf]
      have h1 := blk_all (fun q : Nat => bucketK M ((1 - whichM M : Nat) : Int) (q : Int)) s
      have h2 := flat_keys M (1 - whichM M) h01
      rw [small_len, e] at h2
      rw [h2] at h1
      exact h1
  refine (hsmall.append hgreat).trans ?_
  rw [← List.map_append]
  refine List.Perm.map _ ?_
  unfold tabOf whichM entries
  split
  · simp
    exact List.perm_append_comm
  · simp
end Go.Proofs.Ytkecipdonamjaaa

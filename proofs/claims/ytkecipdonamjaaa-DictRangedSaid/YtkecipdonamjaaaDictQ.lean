/- How large the tables of a dict are behind a call. No condition; no program. -/
import Derived.Test.YtkecipdonamjaaaDictP
namespace Go.Proofs.Ytkecipdonamjaaa
theorem has_of_mem {M : DM} {key : ByteArray} {u : List Value} (h : (key, u) ∈ tb M) : hasK (tb M) key = true := by
  simp only [hasK, List.any_eq_true, decide_eq_true_eq]
  exact ⟨_, h, rfl⟩
theorem has_step {M : DM} (h : Inv M) (key : ByteArray) : hasK (tb (stepM M)) key = hasK (tb M) key := hasK_perm (tb_perm (step_perm M h)) key
theorem no_has {M : DM} {key : ByteArray} (h : ∀ e ∈ entries M, e.key ≠ key) : hasK (tb M) key = false := by
  rw [Bool.eq_false_iff]
  simp only [hasK, ne_eq, List.any_eq_true, decide_eq_true_eq, not_exists, not_and]
  intro y hy hk
  obtain ⟨e, he, rfl⟩ := List.mem_map.1 hy
  exact h e he hk
/-- the key is new -/
theorem set_new {M : DM} (h : Inv M) (key : ByteArray) (v : List Value) (t b : Nat) (hk : hasK (tb M) key = false) : setM M key v t b = addM (growM (stepM M) t) ⟨b, key, v⟩ := by
  unfold setM
  cases hput : putM (stepM M) key v with
  | some N =>
    obtain ⟨_, _, ⟨u, hu⟩, _⟩ := inv_put (inv_step M h) key v hput
    have := has_of_mem hu
    rw [has_step h, hk] at this
    cases this
  | none => rfl
/-- the key is there: the tables are as a step leaves them -/
theorem set_there {M : DM} (h : Inv M) (key : ByteArray) (v : List Value) (t b : Nat) (hk : hasK (tb M) key = true) :
    (setM M key v t b).old.length = (stepM M).old.length ∧ (setM M key v t b).young.length = (stepM M).young.length ∧ (setM M key v t b).at_ = (stepM M).at_ ∧ (setM M key v t b).n = M.n := by
  unfold setM
  cases hput : putM (stepM M) key v with
  | some N =>
    obtain ⟨_, _, _, i4, i5, _, i7, i8, _⟩ := inv_put (inv_step M h) key v hput
    exact ⟨i4, i5, i8, by rw [i7, (step_lens M).2.2.2]⟩
  | none =>
    have := no_has (put_none (inv_step M h) key v hput).1
    rw [has_step h, hk] at this
    cases this
/-- how many buckets both tables have, and how far the old one has been moved -/
def Sz (M : DM) (a b c : Nat) : Prop := M.old.length = a ∧ M.young.length = b ∧ M.at_ = c
theorem Sz.young {M : DM} {a c : Nat} (h : Sz M a 0 c) : M.young = [] := List.length_eq_zero_iff.1 h.2.1
theorem sz_set_there {M : DM} (h : Inv M) (key : ByteArray) (v : List Value) (t b : Nat) (hk : hasK (tb M) key = true) {a : Nat} (hs : Sz M a 0 0) : Sz (setM M key v t b) a 0 0 := by
  obtain ⟨h1, h2, h3, _⟩ := set_there h key v t b hk
  rw [stepM_still M hs.young] at h1 h2 h3
  exact ⟨h1.trans hs.1, h2.trans hs.2.1, h3.trans hs.2.2⟩
theorem sz_set_first {M : DM} (h : Inv M) (key : ByteArray) (v : List Value) (t b : Nat) (hk : hasK (tb M) key = false) (hs : Sz M 0 0 0) : Sz (setM M key v t b) 4 0 0 := by
  rw [set_new h key v t b hk, stepM_still M hs.young]
  have ho : M.old = [] := List.length_eq_zero_iff.1 hs.1
  have hg : growM M t = { M with old := List.replicate 4 [], told := t } := by unfold growM; rw [if_pos ho]
  obtain ⟨h1, h2, h3⟩ := add_lens (growM M t) ⟨b, key, v⟩
  rw [hg] at h1 h2 h3 ⊢
  exact ⟨h1.trans (by simp), h2.trans hs.2.1, h3.trans hs.2.2⟩
theorem sz_set_few {M : DM} (h : Inv M) (key : ByteArray) (v : List Value) (t b : Nat) (hk : hasK (tb M) key = false) {a : Nat} (hs : Sz M a 0 0) (ha : M.n < a) : Sz (setM M key v t b) a 0 0 := by
  rw [set_new h key v t b hk, stepM_still M hs.young]
  have ho : ¬ M.old = [] := by intro e; have := hs.1; rw [e] at this; simp at this; omega
  have hg : growM M t = M := by unfold growM; rw [if_neg ho, if_neg (fun e => by have := hs.1; omega)]
  obtain ⟨h1, h2, h3⟩ := add_lens (growM M t) ⟨b, key, v⟩
  rw [hg] at h1 h2 h3 ⊢
  exact ⟨h1.trans hs.1, h2.trans hs.2.1, h3.trans hs.2.2⟩
/-- the table is full: a second one of twice as many buckets, in which the new key stands alone -/
theorem sz_set_full {M : DM} (h : Inv M) (key : ByteArray) (v : List Value) (t b : Nat) (hk : hasK (tb M) key = false) {a : Nat} (hs : Sz M a 0 0) (ha : 0 < a) (hn : a ≤ M.n) :
    Sz (setM M key v t b) a (2 * a) 0 ∧ (setM M key v t b).young[slotOf M.seed (2 * a) key]? = some [⟨b, key, v⟩] := by
  rw [set_new h key v t b hk, stepM_still M hs.young]
  have ho : ¬ M.old = [] := by intro e; have := hs.1; rw [e] at this; simp at this; omega
  have hg : growM M t = { M with young := List.replicate (2 * M.old.length) [], tyoung := t } := by unfold growM; rw [if_neg ho, if_pos ⟨hs.young, by have := hs.1; omega⟩]
  obtain ⟨h1, h2, h3⟩ := add_lens (growM M t) ⟨b, key, v⟩
  have hy : ¬ (growM M t).young = [] := by rw [hg]; exact replicate_ne (by have := hs.1; omega)
  refine ⟨?_, ?_⟩
  · rw [hg] at h1 h2 h3 ⊢
    exact ⟨h1.trans hs.1, h2.trans (by simp [hs.1]), h3.trans hs.2.2⟩
  · rw [addM_young _ _ hy, hg]
    show (hangM M.seed (List.replicate (2 * M.old.length) []) ⟨b, key, v⟩)[slotOf M.seed (2 * a) key]? = _
    have hl : slotOf M.seed (2 * a) key < 2 * a := slotOf_lt _ _ _ (by omega)
    rw [hs.1]
    have hc : (List.replicate (2 * a) ([] : List E))[slotOf M.seed (List.replicate (2 * a) ([] : List E)).length key]? = some [] := by
      rw [List.length_replicate, List.getElem?_replicate, if_pos hl]
    rw [hangM_eq M.seed _ ⟨b, key, v⟩ [] hc, List.length_replicate]
    rw [List.getElem?_set, if_pos rfl, if_pos (by rw [List.length_replicate]; exact hl)]
/-- the tables of a dict in which there were never more than K keys -/
def Lens (M : DM) (K : Nat) : Prop := M.old.length ≤ max 4 (2 * K) ∧ M.young.length ≤ max 4 (2 * K)
theorem Lens.mono {M : DM} {K J : Nat} (h : Lens M K) (hk : K ≤ J) : Lens M J := ⟨by have := h.1; omega, by have := h.2; omega⟩
theorem Lens.step {M : DM} {K : Nat} (h : Lens M K) : Lens (stepM M) K := by
  obtain ⟨h1, h2, _⟩ := step_lens M
  exact ⟨by have := h.1; have := h.2; omega, by have := h.2; omega⟩
theorem Lens.set {M : DM} {K : Nat} (h : Lens M K) (hi : Inv M) (hn : M.n ≤ K) (key : ByteArray) (v : List Value) (t b : Nat) : Lens (setM M key v t b) K := by
  have hs := h.step
  have hsn := (step_lens M).2.2.2
  cases hk : hasK (tb M) key with
  | true =>
    obtain ⟨h1, h2, _⟩ := set_there hi key v t b hk
    exact ⟨by rw [h1]; exact hs.1, by rw [h2]; exact hs.2⟩
  | false =>
    rw [set_new hi key v t b hk]
    obtain ⟨h1, h2, _⟩ := add_lens (growM (stepM M) t) ⟨b, key, v⟩
    unfold Lens
    rw [h1, h2]
    unfold growM
    split
    · exact ⟨by simp only [List.length_replicate]; omega, hs.2⟩
    · split
      · rename_i hc
        refine ⟨hs.1, ?_⟩
        simp only [List.length_replicate]
        have := hc.2
        omega
      · exact hs
theorem Lens.del {M : DM} {K : Nat} (h : Lens M K) (hi : Inv M) (hn : M.n ≤ K) (key : ByteArray) (t : Nat) : Lens (delM M key t) K := by
  have hs := h.step
  have hsn := (step_lens M).2.2.2
  unfold delM
  cases hd : dropM (stepM M) key with
  | none => exact hs
  | some N =>
    show Lens (shrinkM N t) K
    obtain ⟨_, _, _, i4, i5, _, i7, _⟩ := inv_drop (inv_step M hi) key hd
    unfold shrinkM
    split
    · refine ⟨by rw [i4]; exact hs.1, ?_⟩
      simp only [List.length_replicate]
      have := fitM_le N.n 64 4 (by omega)
      omega
    · exact ⟨by rw [i4]; exact hs.1, by rw [i5]; exact hs.2⟩
/-- what a call keeps: the seed, and a bound on the tables -/
def SL (M M' : DM) : Prop := M'.seed = M.seed ∧ ∀ K, Lens M K → M.n ≤ K → Lens M' K
theorem SL.refl (M : DM) : SL M M := ⟨rfl, fun _ h _ => h⟩
end Go.Proofs.Ytkecipdonamjaaa

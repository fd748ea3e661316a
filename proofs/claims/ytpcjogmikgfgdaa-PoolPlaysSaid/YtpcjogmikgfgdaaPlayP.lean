/- PoolPlays, plain: the reference's list as it came, and the pool's row: the same, sorted. No condition. -/
import Derived.Test.YtpcjogmikgfgdaaRiseP
namespace Go.Proofs.Ytpcjogmikgfgdaa
open Go.RowKit Go.Sort
theorem sortC_perm_eq {A A' : List Cd} (h : A.Perm A') : sortC A = sortC A' :=
  List.Perm.eq_of_pairwise (le := fun a b => ¬ ltC b a) (fun a b _ _ h1 h2 => ltC_total h2 h1) (sortC_pair A) (sortC_pair A') ((sortC_perm A).trans (h.trans (sortC_perm A').symm))
/-- the pool's row is the reference's list, sorted -/
structure Srt (cap : Nat) (l A : List Cd) : Prop where
  so : l = sortC A
  ap : KeysApart A
  le : A.length ≤ cap
theorem Srt.nil (cap : Nat) : Srt cap [] [] := ⟨by simp [sortC], List.Pairwise.nil, Nat.zero_le _⟩
theorem dropK_sort (k : ByteArray) (A : List Cd) : (dropK k (sortC A)).Perm (dropK k A) := (sortC_perm A).filter _
theorem Srt.len {cap : Nat} {l A : List Cd} (h : Srt cap l A) : l.length = A.length := by rw [h.so, sortC_len]
/-- what the reference's Offer may do -/
def RefOff (cap : Nat) (A : List Cd) (c : Cd) (A' : List Cd) (b : Bool) : Prop :=
  (∃ i, ∃ hi : i < A.length, A[i].key = c.key ∧ A' = A.set i c ∧ b = true) ∨
  ((∀ a ∈ A, a.key ≠ c.key) ∧ A.length < cap ∧ A' = A ++ [c] ∧ b = true) ∨
  ((∀ a ∈ A, a.key ≠ c.key) ∧ cap ≤ A.length ∧ ∃ i, ∃ hi : i < A.length, (∀ a ∈ A, ¬ ltC A[i] a) ∧ ((ltC c A[i] ∧ A' = A.set i c ∧ b = true) ∨ (¬ ltC c A[i] ∧ A' = A ∧ b = false)))
theorem set_perm {A : List Cd} {i : Nat} (hi : i < A.length) (c : Cd) : (A.set i c ++ [A[i]]).Perm (A ++ [c]) := by
  have e1 : A.set i c = A.take i ++ c :: A.drop (i + 1) := List.set_eq_take_append_cons_drop.trans (if_pos hi)
  have e2 : A = A.take i ++ A[i] :: A.drop (i + 1) := by rw [← List.drop_eq_getElem_cons hi, List.take_append_drop]
  rw [e1]
  conv => rhs; rw [e2]
  simp only [List.append_assoc, List.cons_append]
  refine List.Perm.append_left _ ?_
  refine ((List.perm_append_singleton A[i] (c :: A.drop (i + 1)))).trans ?_
  refine List.Perm.trans ?_ (List.perm_append_singleton c (A[i] :: A.drop (i + 1))).symm
  exact List.Perm.swap _ _ _
theorem key_inj {A : List Cd} (h : KeysApart A) {i j : Nat} (hi : i < A.length) (hj : j < A.length) (e : A[i].key = A[j].key) : i = j := by
  rcases Nat.lt_trichotomy i j with hlt | rfl | hlt
  · exact absurd e (List.pairwise_iff_getElem.1 h i j hi hj hlt)
  · rfl
  · exact absurd e.symm (List.pairwise_iff_getElem.1 h j i hj hi hlt)
theorem dropK_erase {A : List Cd} (h : KeysApart A) {i : Nat} (hi : i < A.length) : dropK A[i].key A = A.take i ++ A.drop (i + 1) := by
  have e2 : A = A.take i ++ A[i] :: A.drop (i + 1) := by rw [← List.drop_eq_getElem_cons hi, List.take_append_drop]
  have h1 : ∀ c ∈ A.take i, c.key ≠ A[i].key := fun c hc e => by
    obtain ⟨j, hj, rfl⟩ := List.getElem_of_mem hc
    rw [List.length_take] at hj
    rw [List.getElem_take] at e
    have := key_inj h (by omega) hi e
    omega
  have h2 : ∀ c ∈ A.drop (i + 1), c.key ≠ A[i].key := fun c hc e => by
    obtain ⟨j, hj, rfl⟩ := List.getElem_of_mem hc
    rw [List.length_drop] at hj
    rw [List.getElem_drop] at e
    have := key_inj h (by omega) hi e
    omega
  obtain ⟨x, hx⟩ : ∃ x, A[i] = x := ⟨_, rfl⟩
  rw [hx] at e2 h1 h2 ⊢
  have e3 : dropK x.key A = dropK x.key (A.take i ++ x :: A.drop (i + 1)) := congrArg _ e2
  have k1 := dropK_none h1
  have k2 := dropK_none h2
  rw [e3]
  unfold dropK at k1 k2 ⊢
  rw [List.filter_append, List.filter_cons_of_neg (by simp), k1, k2]
theorem erase_perm {A : List Cd} {i : Nat} (hi : i < A.length) : (A.take i ++ A.drop (i + 1) ++ [A[i]]).Perm A := by
  conv => rhs; rw [← List.take_append_drop i A, List.drop_eq_getElem_cons hi]
  rw [List.append_assoc]
  exact List.Perm.append_left _ (List.perm_append_singleton _ _)
theorem set_apart {A : List Cd} (h : KeysApart A) {i : Nat} (hi : i < A.length) {c : Cd} (hc : ∀ j, (hj : j < A.length) → j ≠ i → A[j].key ≠ c.key) : KeysApart (A.set i c) := by
  unfold KeysApart
  rw [List.pairwise_iff_getElem] at *
  intro j k hj hk hjk
  rw [List.length_set] at hj hk
  rw [List.getElem_set, List.getElem_set]
  split
  · rename_i e
    rw [if_neg (by omega)]
    exact fun e2 => hc k hk (by omega) e2.symm
  · split
    · rename_i e1 e2
      exact hc j hj (by omega)
    · exact List.pairwise_iff_getElem.1 h j k hj hk hjk
theorem offB_short {cap : Nat} {l : List Cd} {c : Cd} (h : (offS l c).length ≤ cap) : offB cap l c = true ∧ (offS l c).take cap = offS l c := by
  unfold offB
  rw [List.getElem?_eq_none h]
  exact ⟨rfl, List.take_of_length_le h⟩
theorem offS_len' (l : List Cd) (c : Cd) : (offS l c).length = (dropK c.key l).length + 1 := by unfold offS; rw [sortC_len, List.length_append]; rfl
theorem off_law {cap : Nat} {l A A' : List Cd} {c : Cd} {b : Bool} (h : Srt cap l A) (hr : RefOff cap A c A' b) : offB cap l c = b ∧ Srt cap ((offS l c).take cap) A' := by
  have hp : (dropK c.key l ++ [c]).Perm (dropK c.key A ++ [c]) := by rw [h.so]; exact (dropK_sort c.key A).append_right _
  have hoS : offS l c = sortC (dropK c.key A ++ [c]) := sortC_perm_eq hp
  rcases hr with ⟨i, hi, hk, rfl, rfl⟩ | ⟨hk, hl, rfl, rfl⟩ | ⟨hk, hl, i, hi, hm, hr⟩
  · have hd : dropK c.key A = A.take i ++ A.drop (i + 1) := by rw [← hk]; exact dropK_erase h.ap hi
    have hp2 : (dropK c.key A ++ [c]).Perm (A.set i c) := by
      rw [hd, List.set_eq_take_append_cons_drop, if_pos hi, List.append_assoc]
      exact List.Perm.append_left _ (List.perm_append_singleton _ _)
    have e : offS l c = sortC (A.set i c) := hoS.trans (sortC_perm_eq hp2)
    have hlen : (offS l c).length ≤ cap := by rw [e, sortC_len, List.length_set]; exact h.le
    obtain ⟨h1, h2⟩ := offB_short hlen
    exact ⟨h1, by rw [h2]; exact e, set_apart h.ap hi (fun j hj hne e2 => hne (key_inj h.ap hj hi (e2.trans hk.symm))), by rw [List.length_set]; exact h.le⟩
  · rw [dropK_none hk] at hoS
    have hlen : (offS l c).length ≤ cap := by rw [hoS, sortC_len, List.length_append]; exact hl
    obtain ⟨h1, h2⟩ := offB_short hlen
    refine ⟨h1, by rw [h2]; exact hoS, ?_, by rw [List.length_append]; exact hl⟩
    exact List.pairwise_append.2 ⟨h.ap, List.pairwise_singleton _ _, fun a ha b hb => by rw [List.mem_singleton.1 hb]; exact hk a ha⟩
  · have hcap : A.length = cap := Nat.le_antisymm h.le hl
    rw [dropK_none hk] at hoS
    have hmx : ∀ a ∈ A, a = A[i] ∨ ltC a A[i] := fun a ha => by
      by_cases h1 : ltC a A[i]
      · exact .inr h1
      · exact .inl (ltC_total h1 (hm a ha))
    rcases hr with ⟨hlt, rfl, rfl⟩ | ⟨hnl, hA, rfl⟩
    · have hnc : ∀ j, (hj : j < A.length) → j ≠ i → A[j].key ≠ c.key := fun j hj _ => hk _ (List.getElem_mem hj)
      have hapS := set_apart h.ap hi hnc
      have hsp : sortC (A ++ [c]) = sortC (A.set i c) ++ [A[i]] := by
        refine sortC_of ((set_perm hi c).symm.trans ((sortC_perm _).symm.append_right _)) ?_
        refine List.pairwise_append.2 ⟨sortC_strict hapS.nodup, List.pairwise_singleton _ _, fun a ha b hb => ?_⟩
        rw [List.mem_singleton.1 hb]
        have ha2 : a ∈ A.set i c := (sortC_perm _).mem_iff.1 ha
        obtain ⟨j, hj, rfl⟩ := List.getElem_of_mem ha2
        rw [List.length_set] at hj
        rw [List.getElem_set]
        split
        · exact hlt
        · rename_i hne
          rcases hmx _ (List.getElem_mem hj) with e | e
          · have := key_inj h.ap hj hi (by rw [e])
            omega
          · exact e
      have e : offS l c = sortC (A.set i c) ++ [A[i]] := hoS.trans hsp
      have hSl : (sortC (A.set i c)).length = cap := by rw [sortC_len, List.length_set, hcap]
      refine ⟨?_, ?_, hapS, by rw [List.length_set]; exact h.le⟩
      · unfold offB
        rw [e, List.getElem?_append_right (by omega), hSl, Nat.sub_self]
        show (!eqC A[i] c) = true
        cases hq : eqC A[i] c
        · rfl
        · have h9 := (eqC_iff _ _).1 hq
          exact absurd (congrArg Cd.key h9) (hk _ (List.getElem_mem hi))
      · rw [e, List.take_append_of_le_length (by omega), List.take_of_length_le (by omega)]
    · rw [hA]
      have hcn : ∀ a ∈ A, ltC a c := fun a ha => by
        have h2 : ltC A[i] c := by
          by_cases h3 : ltC A[i] c
          · exact h3
          · have h4 := ltC_total hnl h3
            exact absurd (congrArg Cd.key h4).symm (hk _ (List.getElem_mem hi))
        rcases hmx a ha with e | e
        · rw [e]; exact h2
        · exact ltC_trans e h2
      have hsp : sortC (A ++ [c]) = sortC A ++ [c] := by
        refine sortC_of ((sortC_perm _).symm.append_right _) ?_
        refine List.pairwise_append.2 ⟨sortC_strict h.ap.nodup, List.pairwise_singleton _ _, fun a ha b hb => ?_⟩
        rw [List.mem_singleton.1 hb]
        exact hcn a ((sortC_perm _).mem_iff.1 ha)
      have e : offS l c = sortC A ++ [c] := hoS.trans hsp
      have hSl : (sortC A).length = cap := by rw [sortC_len, hcap]
      refine ⟨?_, ?_, h.ap, h.le⟩
      · unfold offB
        rw [e, List.getElem?_append_right (by omega), hSl, Nat.sub_self]
        show (!eqC c c) = false
        rw [(eqC_iff c c).2 rfl]
        rfl
      · rw [e, List.take_append_of_le_length (by omega), List.take_of_length_le (by omega)]
/-- what the reference's Drop may do -/
def RefDrop (A : List Cd) (k : ByteArray) (A' : List Cd) (b : Bool) : Prop :=
  (∃ i, ∃ hi : i < A.length, A[i].key = k ∧ A' = A.take i ++ A.drop (i + 1) ∧ b = true) ∨ ((∀ a ∈ A, a.key ≠ k) ∧ A' = A ∧ b = false)
theorem drop_law {cap : Nat} {l A A' : List Cd} {k : ByteArray} {b : Bool} (h : Srt cap l A) (hr : RefDrop A k A' b) : decide ((dropK k l).length < l.length) = b ∧ Srt cap (dropK k l) A' := by
  have hs : dropK k l = sortC (dropK k A) := by
    rw [h.so]
    exact List.Perm.eq_of_pairwise (le := fun a b => ¬ ltC b a) (fun a b _ _ h1 h2 => ltC_total h2 h1) ((sortC_pair A).sublist List.filter_sublist) (sortC_pair _) ((dropK_sort k A).trans (sortC_perm _).symm)
  have hl : (dropK k l).length = (dropK k A).length := by rw [hs, sortC_len]
  rcases hr with ⟨i, hi, hk, rfl, rfl⟩ | ⟨hk, rfl, rfl⟩
  · have hd : dropK k A = A.take i ++ A.drop (i + 1) := by rw [← hk]; exact dropK_erase h.ap hi
    have hlt : (A.take i ++ A.drop (i + 1)).length + 1 = A.length := by rw [List.length_append, List.length_take, List.length_drop]; omega
    refine ⟨?_, by rw [hs, hd], ?_, by have := h.le; omega⟩
    · rw [decide_eq_true_eq, hl, hd, h.len]; omega
    · rw [← hd]; exact h.ap.sublist List.filter_sublist
  · rw [dropK_none hk] at hs hl
    refine ⟨?_, hs, h.ap, h.le⟩
    rw [decide_eq_false_iff_not, hl, h.len]; omega
theorem take_law {cap : Nat} {c : Cd} {l A A' : List Cd} {b : Bool} (h : Srt cap (c :: l) A) (hr : RefDrop A c.key A' b) : Srt cap l A' := by
  have h1 := (drop_law h hr).2
  have hs : KeysApart (c :: l) := by rw [h.so]; exact h.ap.perm (sortC_perm A).symm (fun {a b} h e => h e.symm)
  have e : dropK c.key (c :: l) = l := by
    have e1 : dropK c.key l = l := dropK_none (fun a ha e => (List.pairwise_cons.1 hs).1 a ha e.symm)
    unfold dropK at e1 ⊢
    rw [List.filter_cons_of_neg (by simp)]
    exact e1
  rw [e] at h1
  exact h1
/-- the place of one by the count of those ahead of it -/
theorem cnt_at {A : List Cd} (hn : A.Nodup) {x : Cd} (hx : x ∈ A) : (sortC A)[cntC x A]? = some x := by
  obtain ⟨j, hj, rfl⟩ := List.getElem_of_mem ((sortC_perm A).mem_iff.2 hx)
  have := before_count hn j hj
  unfold cntC
  rw [this]
  exact List.getElem?_eq_getElem hj
theorem cnt_lt {A : List Cd} (hn : A.Nodup) {x : Cd} (hx : x ∈ A) : cntC x A < A.length := by
  have := (List.getElem?_eq_some_iff.1 (cnt_at hn hx)).1
  rwa [sortC_len] at this
/-- the row filled by counts -/
structure Fil (A O : List Cd) (k : Nat) : Prop where
  len : O.length = A.length
  at_ : ∀ j, (hj : j < A.length) → j < k → O[cntC A[j] A]? = some A[j]
theorem Fil.step {A O : List Cd} {k : Nat} (hn : A.Nodup) (h : Fil A O k) (hk : k < A.length) : Fil A (O.set (cntC A[k] A) A[k]) (k + 1) := by
  refine ⟨by rw [List.length_set]; exact h.len, fun j hj hjk => ?_⟩
  have hlt := cnt_lt hn (List.getElem_mem hk)
  by_cases he : cntC A[k] A = cntC A[j] A
  · have h1 := cnt_at hn (List.getElem_mem hk)
    rw [he, cnt_at hn (List.getElem_mem hj)] at h1
    have h2 : A[j] = A[k] := Option.some.inj h1
    rw [← he, List.getElem?_set_self (by rw [h.len]; exact hlt), h2]
  · rw [List.getElem?_set_ne he]
    refine h.at_ j hj ?_
    rcases Nat.lt_succ_iff_lt_or_eq.1 hjk with h5 | rfl
    · exact h5
    · exact absurd rfl he
theorem Fil.done {A O : List Cd} (hn : A.Nodup) (h : Fil A O A.length) : O = sortC A := by
  refine List.ext_getElem? (fun t => ?_)
  by_cases ht : t < (sortC A).length
  · have hm : (sortC A)[t] ∈ A := (sortC_perm A).mem_iff.1 (List.getElem_mem ht)
    have hc : cntC (sortC A)[t] A = t := before_count hn t ht
    obtain ⟨j, hj, hjx⟩ := List.getElem_of_mem hm
    have h1 := h.at_ j hj hj
    rw [hjx, hc] at h1
    rw [h1, List.getElem?_eq_getElem ht]
  · rw [List.getElem?_eq_none (by rw [h.len]; rw [sortC_len] at ht; omega), List.getElem?_eq_none (by omega)]
end Go.Proofs.Ytpcjogmikgfgdaa

/- PoolRises, plain: a pool's row stays rising, each key once; what Offer tells. No condition. -/
import Derived.Test.YtpcjogmikgfgdaaPoolSoonest
namespace Go.Proofs.Ytpcjogmikgfgdaa
open Go.RowKit Go.Sort
/-- a pool's row as it should be -/
structure Ris (cap : Nat) (l : List Cd) : Prop where
  up : l.Pairwise ltC
  ap : KeysApart l
  le : l.length ≤ cap
theorem Ris.nil (cap : Nat) : Ris cap [] := ⟨List.Pairwise.nil, List.Pairwise.nil, Nat.zero_le _⟩
theorem Ris.drop {cap : Nat} {l : List Cd} (h : Ris cap l) (k : ByteArray) : Ris cap (dropK k l) :=
  ⟨h.up.sublist List.filter_sublist, h.ap.sublist List.filter_sublist, Nat.le_trans (dropK_len k l) h.le⟩
theorem Ris.tail {cap : Nat} {c : Cd} {l : List Cd} (h : Ris cap (c :: l)) : Ris cap l :=
  ⟨(List.pairwise_cons.1 h.up).2, (List.pairwise_cons.1 h.ap).2, by have := h.le; simp at this; omega⟩
theorem dropK_mem {k : ByteArray} {l : List Cd} {c : Cd} : c ∈ dropK k l ↔ c ∈ l ∧ c.key ≠ k := by unfold dropK; simp
theorem offS_ins {cap : Nat} {l : List Cd} (h : Ris cap l) (c : Cd) : offS l c = insC c (dropK c.key l) := by
  unfold offS
  exact sortC_snoc (h.drop c.key).up (fun hm => (dropK_mem.1 hm).2 rfl)
theorem Ris.offer {cap : Nat} {l : List Cd} (h : Ris cap l) (c : Cd) : Ris cap ((offS l c).take cap) := by
  have hd := h.drop c.key
  rw [offS_ins h c]
  refine ⟨(insC_pair hd.up (fun hm => (dropK_mem.1 hm).2 rfl)).sublist (List.take_sublist _ _), ?_, by rw [List.length_take]; omega⟩
  have h1 : KeysApart (insC c (dropK c.key l)) := by
    have h2 : KeysApart (c :: dropK c.key l) := List.pairwise_cons.2 ⟨fun a ha e => (dropK_mem.1 ha).2 e.symm, hd.ap⟩
    exact h2.perm (insC_perm c _).symm (fun {a b} h e => h e.symm)
  exact h1.sublist (List.take_sublist _ _)
theorem insC_len (c : Cd) (l : List Cd) : (insC c l).length = l.length + 1 := by rw [(insC_perm c l).length_eq]; rfl
/-- what Offer tells: the new one is there -/
theorem offB_found {cap : Nat} {l : List Cd} (h : Ris cap l) (c : Cd) : offB cap l c = amC c ((offS l c).take cap) := by
  have hd := h.drop c.key
  have hnc : c ∉ dropK c.key l := fun hm => (dropK_mem.1 hm).2 rfl
  have hp := insC_pair hd.up hnc
  have hlen : (offS l c).length ≤ cap + 1 := by rw [offS_ins h c, insC_len]; have := hd.le; omega
  have hmem : c ∈ offS l c := by rw [offS_ins h c]; exact insC_mem.2 (.inl rfl)
  have hn : (offS l c).Nodup := by rw [offS_ins h c]; exact hp.imp (fun {a b} h (e : a = b) => ltC_irrefl a (by rw [← e] at h; exact h))
  unfold offB
  cases hg : (offS l c)[cap]? with
  | none =>
    have hle : (offS l c).length ≤ cap := List.getElem?_eq_none_iff.1 hg
    rw [List.take_of_length_le hle, amC_mem hmem]
  | some x =>
    obtain ⟨hlt, hx⟩ := List.getElem?_eq_some_iff.1 hg
    have hsplit : offS l c = (offS l c).take cap ++ [x] := by
      conv => lhs; rw [← List.take_append_drop cap (offS l c)]
      congr 1
      rw [List.drop_eq_getElem_cons hlt, hx, List.drop_eq_nil_of_le (by omega)]
    by_cases hxc : x = c
    · subst hxc
      have e1 : eqC x x = true := (eqC_iff x x).2 rfl
      rw [hsplit] at hn
      have hni := (List.nodup_append.1 hn).2.2
      have e2 : amC x ((offS l x).take cap) = false := by
        unfold amC
        rw [List.any_eq_false]
        intro d hd2 hdq
        have hdx := (eqC_iff d x).1 hdq
        exact hni d hd2 x (List.mem_singleton.2 rfl) hdx
      show (!eqC x x) = _
      rw [e1, e2]
      rfl
    · have e1 : eqC x c = false := by
        cases hq : eqC x c
        · rfl
        · exact absurd ((eqC_iff x c).1 hq) hxc
      have e2 : amC c ((offS l c).take cap) = true := by
        rw [hsplit] at hmem
        rcases List.mem_append.1 hmem with hm | hm
        · exact amC_mem hm
        · exact absurd (List.mem_singleton.1 hm).symm hxc
      show (!eqC x c) = _
      rw [e1, e2]
      rfl
theorem dropK_one {l : List Cd} (h : KeysApart l) (k : ByteArray) : l.length ≤ (dropK k l).length + 1 := by
  induction l with
  | nil => simp
  | cons a l ih =>
    obtain ⟨h1, h2⟩ := List.pairwise_cons.1 h
    by_cases hk : a.key = k
    · have e : dropK k (a :: l) = l := by
        have e1 : dropK k l = l := dropK_none (fun c hc e => h1 c hc (by rw [hk, e]))
        unfold dropK at e1 ⊢
        rw [List.filter_cons_of_neg (by simpa using hk)]
        exact e1
      rw [e]
      exact Nat.le_refl _
    · have e : dropK k (a :: l) = a :: dropK k l := by
        unfold dropK
        rw [List.filter_cons_of_pos (by simpa using hk)]
      rw [e, List.length_cons, List.length_cons]
      have := ih h2
      omega
theorem len_grow {cap : Nat} {l : List Cd} (h : Ris cap l) (c : Cd) : l.length ≤ ((offS l c).take cap).length := by
  rw [List.length_take, offS_ins h c, insC_len]
  have h1 := dropK_one h.ap c.key
  have h2 := h.le
  omega
theorem offB_no {cap : Nat} {l : List Cd} (h : Ris cap l) (c : Cd) (hb : offB cap l c = false) : (offS l c).take cap = l := by
  have hd := h.drop c.key
  have hlen : (offS l c).length = (dropK c.key l).length + 1 := by rw [offS_ins h c, insC_len]
  unfold offB at hb
  cases hg : (offS l c)[cap]? with
  | none => rw [hg] at hb; cases hb
  | some x =>
    rw [hg] at hb
    obtain ⟨hlt, hx⟩ := List.getElem?_eq_some_iff.1 hg
    have hb2 : (!eqC x c) = false := hb
    have hxc : x = c := (eqC_iff x c).1 (by simpa using hb2)
    have hdl : (dropK c.key l).length = l.length := by have := dropK_len c.key l; have := h.le; omega
    have hdd : dropK c.key l = l := List.filter_eq_self.2 (List.length_filter_eq_length_iff.1 hdl)
    have hsplit : offS l c = (offS l c).take cap ++ [c] := by
      conv => lhs; rw [← List.take_append_drop cap (offS l c)]
      congr 1
      rw [List.drop_eq_getElem_cons hlt, hx, List.drop_eq_nil_of_le (by have := h.le; omega), hxc]
    have hperm : ((offS l c).take cap ++ [c]).Perm (l ++ [c]) := by
      rw [← hsplit]
      unfold offS
      rw [hdd]
      exact sortC_perm _
    have hp2 : ((offS l c).take cap).Perm l := (List.perm_append_right_iff [c]).1 hperm
    exact List.Perm.eq_of_pairwise (le := fun a b => ¬ ltC b a) (fun a b _ _ k1 k2 => ltC_total k2 k1) ((h.offer c).up.imp (fun {a b} k e => ltC_irrefl _ (ltC_trans k e))) (h.up.imp (fun {a b} k e => ltC_irrefl _ (ltC_trans k e))) hp2
end Go.Proofs.Ytpcjogmikgfgdaa

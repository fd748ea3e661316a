/- PoolSoonest, plain: what stays of a list offered one by one. No condition. -/
import Derived.Test.YtpcjogmikgfgdaaUnlike
namespace Go.Proofs.Ytpcjogmikgfgdaa
open Go.RowKit Go.Sort
def insC (c : Cd) : List Cd → List Cd
  | [] => [c]
  | a :: l => if ltC c a then c :: a :: l else a :: insC c l
theorem insC_perm (c : Cd) (l : List Cd) : (insC c l).Perm (c :: l) := by
  induction l with
  | nil => exact List.Perm.refl _
  | cons a l ih =>
    unfold insC
    split
    · exact List.Perm.refl _
    · exact (ih.cons a).trans (List.Perm.swap c a l)
theorem insC_mem {c x : Cd} {l : List Cd} : x ∈ insC c l ↔ x = c ∨ x ∈ l := by rw [(insC_perm c l).mem_iff, List.mem_cons]
theorem insC_pair {c : Cd} {l : List Cd} (h : l.Pairwise ltC) (hc : c ∉ l) : (insC c l).Pairwise ltC := by
  induction l with
  | nil => exact List.pairwise_singleton _ _
  | cons a l ih =>
    obtain ⟨h1, h2⟩ := List.pairwise_cons.1 h
    unfold insC
    split
    · rename_i hca
      exact List.pairwise_cons.2 ⟨fun x hx => by
        rcases List.mem_cons.1 hx with rfl | hx
        · exact hca
        · exact ltC_trans hca (h1 x hx), h⟩
    · rename_i hca
      refine List.pairwise_cons.2 ⟨fun x hx => ?_, ih h2 (fun hm => hc (List.mem_cons_of_mem _ hm))⟩
      rcases insC_mem.1 hx with rfl | hx
      · by_cases hac : ltC a x
        · exact hac
        · exact absurd (ltC_total hca hac) (fun e => hc (by rw [e]; exact List.mem_cons_self))
      · exact h1 x hx
theorem insC_take (c : Cd) (l : List Cd) (n : Nat) : (insC c (l.take n)).take n = (insC c l).take n := by
  induction l generalizing n with
  | nil => simp
  | cons a l ih =>
    cases n with
    | zero => simp
    | succ n =>
      rw [List.take_succ_cons]
      unfold insC
      split
      · rw [List.take_succ_cons, List.take_succ_cons]
        congr 1
        cases n with
        | zero => simp
        | succ n => rw [List.take_succ_cons, List.take_succ_cons, List.take_take, Nat.min_eq_left (by omega)]
      · rw [List.take_succ_cons, List.take_succ_cons, ih]
theorem sortC_snoc {L : List Cd} {c : Cd} (h : L.Pairwise ltC) (hc : c ∉ L) : sortC (L ++ [c]) = insC c L :=
  sortC_of ((List.perm_append_singleton c L).trans (insC_perm c L).symm) (insC_pair h hc)
/-- rising strictly -/
theorem sortC_strict {l : List Cd} (hn : l.Nodup) : (sortC l).Pairwise ltC := by
  have h1 := sortC_pair l
  have h2 : (sortC l).Nodup := (sortC_perm l).nodup_iff.2 hn
  refine (h1.and h2).imp (fun {a b} h => ?_)
  by_cases hab : ltC a b
  · exact hab
  · exact absurd (ltC_total hab h.1) h.2
/-- one more is offered -/
theorem offer_step {A : List Cd} {c : Cd} {n : Nat} (hn : (A ++ [c]).Nodup) (hk : ∀ a ∈ A, a.key ≠ c.key) : (offS ((sortC A).take n) c).take n = (sortC (A ++ [c])).take n := by
  have hA : A.Nodup := (List.nodup_append.1 hn).1
  have hcA : c ∉ A := fun hm => hk c hm rfl
  have hs := sortC_strict hA
  have hcs : c ∉ sortC A := fun hm => hcA ((sortC_perm A).mem_iff.1 hm)
  have hd : dropK c.key ((sortC A).take n) = (sortC A).take n := dropK_none (fun x hx => hk x ((sortC_perm A).mem_iff.1 (List.mem_of_mem_take hx)))
  have e1 : offS ((sortC A).take n) c = insC c ((sortC A).take n) := by
    unfold offS
    rw [hd]
    exact sortC_snoc (hs.sublist (List.take_sublist _ _)) (fun hm => hcs (List.mem_of_mem_take hm))
  have e2 : sortC (A ++ [c]) = insC c (sortC A) := by
    refine sortC_of ?_ (insC_pair hs hcs)
    exact ((List.perm_append_singleton c A).trans ((sortC_perm A).symm.cons c)).trans (insC_perm c _).symm
  rw [e1, e2, insC_take]
/-- how many come before the i-th -/
theorem before_count {l : List Cd} (hn : l.Nodup) (i : Nat) (h : i < (sortC l).length) : (l.countP fun d => decide (ltC d (sortC l)[i])) = i := by
  have hs := sortC_strict hn
  have hp := (sortC_perm l).countP_eq (fun d => decide (ltC d (sortC l)[i]))
  rw [← hp]
  generalize hL : sortC l = L at hs h ⊢
  clear hp hL
  have h1 : ∀ (L : List Cd) (i : Nat) (h : i < L.length), L.Pairwise ltC → (L.countP fun d => decide (ltC d L[i])) = i := by
    intro L
    induction L with
    | nil => intro i h; simp at h
    | cons a L ih =>
      intro i h hs
      obtain ⟨k1, k2⟩ := List.pairwise_cons.1 hs
      cases i with
      | zero =>
        rw [List.countP_eq_zero]
        intro d hd
        simp only [List.getElem_cons_zero, decide_eq_true_eq]
        rcases List.mem_cons.1 hd with rfl | hd
        · exact ltC_irrefl _
        · exact fun h9 => ltC_irrefl _ (ltC_trans h9 (k1 d hd))
      | succ i =>
        have hi : i < L.length := by simpa using h
        rw [List.countP_cons]
        simp only [List.getElem_cons_succ]
        rw [ih i hi k2, if_pos (decide_eq_true (k1 _ (List.getElem_mem hi)))]
  exact h1 L i h hs
end Go.Proofs.Ytpcjogmikgfgdaa

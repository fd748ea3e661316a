/- What the operations of package dict make of a table, as plain functions; what they keep. No condition; no program. -/
import Derived.Test.YtkecipdonamjaaaDictM
namespace Go.Proofs.Ytkecipdonamjaaa

def hangM (seed : UInt64) (cs : List (List E)) (e : E) : List (List E) := cs.modify (slotOf seed cs.length e.key) (e :: ·)
def passM (old : List (List E)) : Nat → Nat → Nat
  | 0, a => a
  | k + 1, a => match old[a]? with
    | some [] => passM old k (a + 1)
    | _ => a
def moveM (M : DM) (a : Nat) : DM := match M.old[a]? with
  | some (e :: r) => { M with old := M.old.set a [], young := (e :: r).foldl (hangM M.seed) M.young, at_ := a + 1 }
  | _ => { M with at_ := a }
def endM (M : DM) : DM := if M.at_ = M.old.length then { M with told := M.tyoung, old := M.young, young := [], at_ := 0 } else M
def stepM (M : DM) : DM := if M.young = [] then M else endM (moveM M (passM M.old 10 M.at_))
def entries (M : DM) : List E := M.old.flatten ++ M.young.flatten

theorem hangM_length (seed : UInt64) (cs : List (List E)) (e : E) : (hangM seed cs e).length = cs.length := by simp [hangM]
theorem hangM_eq (seed : UInt64) (cs : List (List E)) (e : E) (c : List E) (hc : cs[slotOf seed cs.length e.key]? = some c) : hangM seed cs e = cs.set (slotOf seed cs.length e.key) (e :: c) := by
  unfold hangM
  rw [List.modify_eq_set, hc]; rfl
theorem foldl_hang_length (seed : UInt64) (l : List E) : ∀ cs : List (List E), (l.foldl (hangM seed) cs).length = cs.length := by
  induction l with
  | nil => intro cs; rfl
  | cons e l ih => intro cs; rw [List.foldl_cons, ih, hangM_length]
theorem slotOf_lt (seed : UInt64) (n : Nat) (key : ByteArray) (h : 0 < n) : slotOf seed n key < n := Nat.mod_lt _ h
theorem passM_ge (old : List (List E)) : ∀ k a, a ≤ passM old k a ∧ passM old k a ≤ a + k := by
  intro k
  induction k with
  | zero => intro a; exact ⟨Nat.le_refl _, Nat.le_refl _⟩
  | succ k ih =>
    intro a
    unfold passM
    split
    · have := ih (a + 1); omega
    · omega
theorem passM_le (old : List (List E)) : ∀ k a, a ≤ old.length → passM old k a ≤ old.length := by
  intro k
  induction k with
  | zero => intro a h; exact h
  | succ k ih =>
    intro a h
    unfold passM
    split
    · rename_i hs
      have := (List.getElem?_eq_some_iff.1 hs).1
      exact ih _ (by omega)
    · exact h
theorem passM_empty (old : List (List E)) : ∀ k a i, a ≤ i → i < passM old k a → old[i]? = some [] := by
  intro k
  induction k with
  | zero => intro a i h1 h2; unfold passM at h2; omega
  | succ k ih =>
    intro a i h1 h2
    unfold passM at h2
    split at h2
    · rename_i hs
      by_cases h : i = a
      · subst h; exact hs
      · exact ih (a + 1) i (by omega) h2
    · omega
theorem modify_flatten_perm (cs : List (List E)) (e : E) : ∀ i, i < cs.length → ((cs.modify i (e :: ·)).flatten).Perm (e :: cs.flatten) := by
  induction cs with
  | nil => intro i h; simp at h
  | cons c cs ih =>
    intro i h
    cases i with
    | zero => simp
    | succ i =>
      have := ih i (by simpa using h)
      simp only [List.modify_succ_cons, List.flatten_cons]
      exact (this.append_left c).trans List.perm_middle
theorem hangM_perm (seed : UInt64) (cs : List (List E)) (e : E) (h : cs ≠ []) : ((hangM seed cs e).flatten).Perm (e :: cs.flatten) :=
  modify_flatten_perm cs e _ (slotOf_lt _ _ _ (List.length_pos_iff.2 h))
theorem foldl_hang_perm (seed : UInt64) (l : List E) : ∀ cs : List (List E), cs ≠ [] → ((l.foldl (hangM seed) cs).flatten).Perm (l ++ cs.flatten) := by
  induction l with
  | nil => intro cs h; exact List.Perm.refl _
  | cons e l ih =>
    intro cs h
    rw [List.foldl_cons]
    have hne : hangM seed cs e ≠ [] := by
      intro h0; have := hangM_length seed cs e; rw [h0] at this; exact h (List.length_eq_zero_iff.1 this.symm)
    refine (ih _ hne).trans ?_
    refine ((hangM_perm seed cs e h).append_left l).trans ?_
    exact List.perm_middle
theorem set_nil_perm (cs : List (List E)) : ∀ i (h : i < cs.length), (cs.flatten).Perm (cs[i] ++ (cs.set i []).flatten) := by
  induction cs with
  | nil => intro i h; simp at h
  | cons c cs ih =>
    intro i h
    cases i with
    | zero => simp
    | succ i =>
      have := ih i (by simpa using h)
      simp only [List.getElem_cons_succ, List.set_cons_succ, List.flatten_cons]
      exact (this.append_left c).trans (List.perm_append_comm_assoc _ _ _)

/-- each key lies in its bucket -/
def Placed (seed : UInt64) (cs : List (List E)) : Prop := ∀ i c, cs[i]? = some c → ∀ e ∈ c, slotOf seed cs.length e.key = i
theorem Placed.nil (seed : UInt64) : Placed seed [] := fun i c h => by simp at h
/-- what holds of every dict between two calls -/
structure Inv (M : DM) : Prop where
  pold : Placed M.seed M.old
  pyoung : Placed M.seed M.young
  keys : ((entries M).map E.key).Nodup
  sold : M.old ≠ [] → ∃ k, 2 ≤ k ∧ M.old.length = 2 ^ k
  syoung : M.young ≠ [] → ∃ k, 2 ≤ k ∧ M.young.length = 2 ^ k
  moving : M.young ≠ [] → M.at_ < M.old.length
  still : M.young = [] → M.at_ = 0
  passed : ∀ i, i < M.at_ → M.old[i]? = some []
  count : M.n = (entries M).length

theorem entries_move (M : DM) (a : Nat) (hy : M.young ≠ []) : (entries (moveM M a)).Perm (entries M) := by
  unfold moveM
  split
  · rename_i e r hs
    obtain ⟨hlt, hc⟩ := List.getElem?_eq_some_iff.1 hs
    unfold entries
    simp only
    have h1 := foldl_hang_perm M.seed (e :: r) M.young hy
    have h2 := set_nil_perm M.old a hlt
    rw [hc] at h2
    refine (h1.append_left _).trans ?_
    refine List.Perm.trans ?_ (h2.symm.append_right _)
    rw [List.append_assoc]
    exact List.perm_append_comm_assoc _ _ _
  · exact List.Perm.refl _
theorem move_lens (M : DM) (a : Nat) : (moveM M a).old.length = M.old.length ∧ (moveM M a).young.length = M.young.length ∧ (moveM M a).seed = M.seed ∧ (moveM M a).n = M.n := by
  unfold moveM
  split
  · exact ⟨by simp, foldl_hang_length _ _ _, rfl, rfl⟩
  · exact ⟨rfl, rfl, rfl, rfl⟩
theorem hang_placed (seed : UInt64) (cs : List (List E)) (e : E) (h : Placed seed cs) : Placed seed (hangM seed cs e) := by
  intro i c hc x hx
  rw [hangM_length]
  unfold hangM at hc
  rw [List.getElem?_modify] at hc
  cases hs : cs[i]? with
  | none => rw [hs] at hc; simp at hc
  | some c0 =>
    rw [hs] at hc
    simp only [Option.map_eq_map, Option.map_some, Option.some.injEq] at hc
    split at hc
    · rename_i he
      subst hc
      rcases List.mem_cons.1 hx with rfl | hx
      · exact he
      · exact h i c0 hs x hx
    · subst hc
      exact h i c0 hs x hx
theorem foldl_placed (seed : UInt64) (l : List E) : ∀ cs : List (List E), Placed seed cs → Placed seed (l.foldl (hangM seed) cs) := by
  induction l with
  | nil => intro cs h; exact h
  | cons e l ih => intro cs h; exact ih _ (hang_placed seed cs e h)
theorem set_placed (seed : UInt64) (cs : List (List E)) (i : Nat) (c : List E) (h : Placed seed cs) (hc : ∀ e ∈ c, slotOf seed cs.length e.key = i) : Placed seed (cs.set i c) := by
  intro j c' hj x hx
  rw [List.length_set]
  rw [List.getElem?_set] at hj
  split at hj
  · rename_i he
    split at hj
    · cases hj; subst he; exact hc x hx
    · cases hj
  · exact h j c' hj x hx
theorem move_cases (M : DM) (a : Nat) : moveM M a = { M with at_ := a } ∨ ∃ e r, M.old[a]? = some (e :: r) ∧ moveM M a = { M with old := M.old.set a [], young := (e :: r).foldl (hangM M.seed) M.young, at_ := a + 1 } := by
  unfold moveM
  split
  · rename_i e r hs; exact .inr ⟨e, r, hs, rfl⟩
  · exact .inl rfl
theorem inv_move (M : DM) (h : Inv M) (hy : M.young ≠ []) (N : DM) (hN : N = moveM M (passM M.old 10 M.at_)) :
    Placed N.seed N.old ∧ Placed N.seed N.young ∧ (∀ i, i < N.at_ → N.old[i]? = some []) ∧ N.at_ ≤ N.old.length ∧ M.at_ ≤ N.at_ ∧ N.at_ ≤ M.at_ + 11 := by
  have hp := passM_ge M.old 10 M.at_
  have hm := h.moving hy
  have hl := passM_le M.old 10 M.at_ (by omega)
  have hpass : ∀ i, i < passM M.old 10 M.at_ → M.old[i]? = some [] := by
    intro i hi
    by_cases hia : i < M.at_
    · exact h.passed i hia
    · exact passM_empty M.old 10 M.at_ i (by omega) hi
  rcases move_cases M (passM M.old 10 M.at_) with hc | ⟨e, r, hs, hc⟩
  · rw [hc] at hN; subst hN
    exact ⟨h.pold, h.pyoung, hpass, hl, hp.1, by simp only; omega⟩
  · rw [hc] at hN; subst hN
    have hlt := (List.getElem?_eq_some_iff.1 hs).1
    refine ⟨set_placed _ _ _ _ h.pold (fun x hx => by cases hx), foldl_placed M.seed (e :: r) M.young h.pyoung, ?_, ?_, by simp only; omega, by simp only; omega⟩
    · intro i hi
      simp only at hi ⊢
      rw [List.getElem?_set]
      by_cases hia : passM M.old 10 M.at_ = i
      · rw [if_pos hia, if_pos (by omega)]
      · rw [if_neg hia]; exact hpass i (by omega)
    · simp only [List.length_set]; omega
theorem endM_pos (M : DM) (h : M.at_ = M.old.length) : endM M = { M with told := M.tyoung, old := M.young, young := [], at_ := 0 } := by unfold endM; rw [if_pos h]
theorem endM_neg (M : DM) (h : ¬ M.at_ = M.old.length) : endM M = M := by unfold endM; rw [if_neg h]
theorem stepM_still (M : DM) (h : M.young = []) : stepM M = M := by unfold stepM; rw [if_pos h]
theorem stepM_moving (M : DM) (h : ¬ M.young = []) : stepM M = endM (moveM M (passM M.old 10 M.at_)) := by unfold stepM; rw [if_neg h]
theorem step_perm (M : DM) (h : Inv M) : (entries (stepM M)).Perm (entries M) := by
  by_cases hy : M.young = []
  · rw [stepM_still M hy]
  · rw [stepM_moving M hy]
    obtain ⟨N, hN⟩ : ∃ N, N = moveM M (passM M.old 10 M.at_) := ⟨_, rfl⟩
    have hi := inv_move M h hy N hN
    have hm := entries_move M (passM M.old 10 M.at_) hy
    rw [← hN] at hm ⊢
    by_cases he : N.at_ = N.old.length
    · rw [endM_pos N he]
      refine List.Perm.trans ?_ hm
      unfold entries
      simp only [List.flatten_nil, List.append_nil]
      have hnil : N.old.flatten = [] := by
        rw [List.flatten_eq_nil_iff]
        intro c hc
        obtain ⟨i, hi1, rfl⟩ := List.getElem_of_mem hc
        have := hi.2.2.1 i (by rw [he]; exact hi1)
        rw [List.getElem?_eq_getElem hi1] at this
        exact Option.some.inj this
      rw [hnil, List.nil_append]
    · rw [endM_neg N he]; exact hm
theorem step_lens (M : DM) : ((stepM M).old.length = M.old.length ∨ (stepM M).old.length = M.young.length) ∧ (stepM M).young.length ≤ M.young.length ∧ (stepM M).seed = M.seed ∧ (stepM M).n = M.n := by
  by_cases hy : M.young = []
  · rw [stepM_still M hy]; exact ⟨.inl rfl, Nat.le_refl _, rfl, rfl⟩
  · rw [stepM_moving M hy]
    have hl := move_lens M (passM M.old 10 M.at_)
    generalize moveM M (passM M.old 10 M.at_) = N at *
    by_cases he : N.at_ = N.old.length
    · rw [endM_pos N he]; exact ⟨.inr hl.2.1, Nat.zero_le _, hl.2.2.1, hl.2.2.2⟩
    · rw [endM_neg N he]; exact ⟨.inl hl.1, Nat.le_of_eq hl.2.1, hl.2.2.1, hl.2.2.2⟩
theorem inv_step (M : DM) (h : Inv M) : Inv (stepM M) := by
  have hperm := step_perm M h
  have hk : ((entries (stepM M)).map E.key).Nodup := (hperm.map E.key).nodup_iff.2 h.keys
  by_cases hy : M.young = []
  · rw [stepM_still M hy]; exact h
  · rw [stepM_moving M hy] at hk hperm ⊢
    obtain ⟨N, hN⟩ : ∃ N, N = moveM M (passM M.old 10 M.at_) := ⟨_, rfl⟩
    have hi := inv_move M h hy N hN
    have hl := move_lens M (passM M.old 10 M.at_)
    rw [← hN] at hl hk hperm ⊢
    have hyl : N.young ≠ [] := by
      intro h0
      have := hl.2.1
      rw [h0] at this
      exact hy (List.length_eq_zero_iff.1 this.symm)
    have hol : M.old ≠ [] := by
      intro h0; have := h.moving hy; rw [h0] at this; simp at this
    by_cases he : N.at_ = N.old.length
    · rw [endM_pos N he] at hk hperm ⊢
      refine ⟨hi.2.1, Placed.nil _, hk, ?_, fun h0 => absurd rfl h0, fun h0 => absurd rfl h0, fun _ => rfl, ?_, ?_⟩
      · intro _; show ∃ k, 2 ≤ k ∧ N.young.length = 2 ^ k; rw [hl.2.1]; exact h.syoung hy
      · intro i h0; simp at h0
      · rw [hperm.length_eq, ← h.count]; exact hl.2.2.2
    · rw [endM_neg N he] at hk hperm ⊢
      refine ⟨hi.1, hi.2.1, hk, ?_, ?_, fun _ => by have := hi.2.2.2.1; omega, fun h0 => absurd h0 hyl, hi.2.2.1, ?_⟩
      · intro _; rw [hl.1]; exact h.sold hol
      · intro _; rw [hl.2.1]; exact h.syoung hy
      · rw [hperm.length_eq, ← h.count]; exact hl.2.2.2
end Go.Proofs.Ytkecipdonamjaaa

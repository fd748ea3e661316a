/- The plain list of entries beside a table of whole numbers: what a step makes of both, and that they stay alike. No condition; no program. -/
import Derived.Test.YtkecipdonamjaaaDictH
namespace Go.Proofs.Ytkecipdonamjaaa

/-- an entry of the plain list -/
abbrev En := ByteArray × Int
abbrev Pl := List En
def enPair (e : En) : ByteArray × List Value := (e.1, [.int .i64 e.2])
/-- the list and the table hold the same -/
structure Like (M : DM) (L : Pl) : Prop where
  inv : Inv M
  perm : (tb M).Perm (L.map enPair)
theorem Like.nodup {M : DM} {L : Pl} (h : Like M L) : (L.map (·.1)).Nodup := by
  have h1 : ((tb M).map (·.1)).Nodup := by rw [tb_keys]; exact h.inv.keys
  have h2 := (h.perm.map (·.1)).nodup_iff.1 h1
  rw [List.map_map] at h2
  exact h2
theorem Like.count {M : DM} {L : Pl} (h : Like M L) : M.n = L.length := by
  have := h.perm.length_eq
  rw [List.length_map] at this
  rw [h.inv.count, ← this]
  unfold tb; rw [List.length_map]
/-- the place of a key: the last one that bears it -/
def atOf (key : ByteArray) : Pl → Option Nat
  | [] => none
  | e :: l => match atOf key l with
    | some i => some (i + 1)
    | none => if e.1 = key then some 0 else none
theorem atOf_snoc (key : ByteArray) (l : Pl) (e : En) : atOf key (l ++ [e]) = if e.1 = key then some l.length else atOf key l := by
  induction l with
  | nil => simp [atOf]
  | cons a l ih =>
    simp only [List.cons_append, atOf, ih]
    by_cases h : e.1 = key
    · simp [h]
    · simp [h]
theorem atOf_none {key : ByteArray} {l : Pl} (h : atOf key l = none) : ∀ e ∈ l, e.1 ≠ key := by
  induction l with
  | nil => intro e he; cases he
  | cons a l ih =>
    intro e he
    unfold atOf at h
    cases h2 : atOf key l with
    | some i => rw [h2] at h; cases h
    | none =>
      rw [h2] at h
      simp only at h
      by_cases ha : a.1 = key
      · rw [if_pos ha] at h; cases h
      · rcases List.mem_cons.1 he with rfl | he
        · exact ha
        · exact ih h2 e he
theorem atOf_some {key : ByteArray} {l : Pl} {i : Nat} (h : atOf key l = some i) : ∃ x, l[i]? = some (key, x) := by
  induction l generalizing i with
  | nil => cases h
  | cons a l ih =>
    unfold atOf at h
    cases h2 : atOf key l with
    | some j =>
      rw [h2] at h
      simp only [Option.some.injEq] at h
      subst h
      obtain ⟨x, hx⟩ := ih h2
      exact ⟨x, by simpa using hx⟩
    | none =>
      rw [h2] at h
      simp only at h
      by_cases ha : a.1 = key
      · rw [if_pos ha] at h
        simp only [Option.some.injEq] at h
        subst h
        exact ⟨a.2, by rw [← ha]; rfl⟩
      · rw [if_neg ha] at h; cases h
theorem atOf_lt {key : ByteArray} {l : Pl} {i : Nat} (h : atOf key l = some i) : i < l.length := by
  obtain ⟨x, hx⟩ := atOf_some h
  exact (List.getElem?_eq_some_iff.1 hx).1

theorem perm_erase (l : Pl) (i : Nat) (e : En) (h : l[i]? = some e) : l.Perm (e :: l.eraseIdx i) := by
  induction l generalizing i with
  | nil => simp at h
  | cons a l ih =>
    cases i with
    | zero => simp only [List.getElem?_cons_zero, Option.some.injEq] at h; subst h; simp
    | succ i =>
      simp only [List.getElem?_cons_succ] at h
      simp only [List.eraseIdx_cons_succ]
      exact ((ih i h).cons a).trans (List.Perm.swap _ _ _)
theorem perm_set (l : Pl) (i : Nat) (e : En) (hi : i < l.length) : (l.set i e).Perm (e :: l.eraseIdx i) := by
  have h1 := perm_erase (l.set i e) i e (by simp [hi])
  have h2 : (l.set i e).eraseIdx i = l.eraseIdx i := by
    rw [List.eraseIdx_set_eq]
  rw [h2] at h1
  exact h1
theorem perm_swapdrop (l : Pl) (i : Nat) (hi : i < l.length) (z : En) (hz : l[l.length - 1]? = some z) : ((l.set i z).dropLast).Perm (l.eraseIdx i) := by
  obtain ⟨q, rfl⟩ : ∃ q, l = q ++ [z] := by
    have hne : l ≠ [] := by intro e; rw [e] at hi; simp at hi
    refine ⟨l.dropLast, ?_⟩
    have h1 := List.dropLast_concat_getLast hne
    have h2 : l.getLast hne = z := by
      rw [List.getLast_eq_getElem]
      have := (List.getElem?_eq_some_iff.1 hz).2
      exact this
    rw [h2] at h1
    exact h1.symm
  by_cases hq : i < q.length
  · rw [List.set_append_left _ _ hq, List.dropLast_concat, List.eraseIdx_append_of_lt_length hq]
    refine (perm_set q i z hq).trans ?_
    exact (List.perm_append_singleton z (q.eraseIdx i)).symm
  · have : i = q.length := by simp at hi; omega
    subst this
    rw [List.set_append_right _ _ (Nat.le_refl _), Nat.sub_self, List.eraseIdx_append_of_length_le (Nat.le_refl _)]
    simp
def setL (L : Pl) (key : ByteArray) (x : Int) : Pl := match atOf key L with
  | some i => L.set i (key, x)
  | none => L ++ [(key, x)]
def delL (L : Pl) (key : ByteArray) : Pl := match atOf key L with
  | some i => (L.set i (L.getD (L.length - 1) (key, 0))).dropLast
  | none => L
theorem Like.del {M : DM} {L : Pl} (h : Like M L) (key : ByteArray) : (tbDel key (tb M)).Perm ((match atOf key L with | some i => L.eraseIdx i | none => L).map enPair) := by
  have hk : ((tb M).map (·.1)).Nodup := by rw [tb_keys]; exact h.inv.keys
  cases ha : atOf key L with
  | some i =>
    obtain ⟨x, hx⟩ := atOf_some ha
    have hp := h.perm.trans ((perm_erase L i _ hx).map enPair)
    rw [List.map_cons] at hp
    exact tbDel_perm hp hk
  | none =>
    have hn := atOf_none ha
    have : tbDel key (tb M) = tb M := tbDel_none (fun x hx => by
      obtain ⟨e, he, rfl⟩ := List.mem_map.1 (h.perm.mem_iff.1 hx)
      exact hn e he)
    rw [this]
    exact h.perm
theorem Like.set {M : DM} {L : Pl} (h : Like M L) (key : ByteArray) (x : Int) (t b : Nat) : Like (setM M key [.int .i64 x] t b) (setL L key x) := by
  obtain ⟨h1, h2⟩ := set_inv h.inv key [.int .i64 x] t b
  refine ⟨h1, h2.trans ?_⟩
  have hd := h.del key
  unfold tbSet setL
  cases ha : atOf key L with
  | some i =>
    rw [ha] at hd
    have hp := (perm_set L i (key, x) (atOf_lt ha)).map enPair
    exact (hd.cons _).trans hp.symm
  | none =>
    rw [ha] at hd
    have hp := (List.perm_append_singleton (key, x) L).map enPair
    exact (hd.cons _).trans hp.symm
theorem Like.delete {M : DM} {L : Pl} (h : Like M L) (key : ByteArray) (t : Nat) : Like (delM M key t) (delL L key) := by
  obtain ⟨h1, h2⟩ := del_inv h.inv key t
  refine ⟨h1, h2.trans ?_⟩
  have hd := h.del key
  unfold delL
  cases ha : atOf key L with
  | some i =>
    rw [ha] at hd
    have hi := atOf_lt ha
    have hp := perm_swapdrop L i hi (L.getD (L.length - 1) (key, 0)) (by rw [List.getD_eq_getElem?_getD, List.getElem?_eq_getElem (by omega)]; rfl)
    exact hd.trans (hp.map enPair).symm
  | none => rw [ha] at hd; exact hd
theorem Like.step {M : DM} {L : Pl} (h : Like M L) : Like (stepM M) L := ⟨inv_step M h.inv, (tb_perm (step_perm M h.inv)).trans h.perm⟩
/-- is a key there? -/
def hasK (T : Tb) (key : ByteArray) : Bool := T.any fun x => decide (x.1 = key)
theorem hasK_perm {T U : Tb} (h : T.Perm U) (key : ByteArray) : hasK T key = hasK U key := by
  rw [Bool.eq_iff_iff]
  simp only [hasK, List.any_eq_true, decide_eq_true_eq]
  constructor
  · rintro ⟨x, h1, h2⟩; exact ⟨x, h.mem_iff.1 h1, h2⟩
  · rintro ⟨x, h1, h2⟩; exact ⟨x, h.mem_iff.2 h1, h2⟩
theorem Like.has {M : DM} {L : Pl} (h : Like M L) (key : ByteArray) : hasK (tb M) key = (atOf key L).isSome := by
  rw [hasK_perm h.perm]
  cases ha : atOf key L with
  | some i =>
    obtain ⟨x, hx⟩ := atOf_some ha
    simp only [hasK, List.any_eq_true, decide_eq_true_eq, Option.isSome_some]
    exact ⟨_, List.mem_map_of_mem (List.mem_of_getElem? hx), rfl⟩
  | none =>
    have hn := atOf_none ha
    rw [Option.isSome_none, Bool.eq_false_iff]
    simp only [hasK, ne_eq, List.any_eq_true, decide_eq_true_eq, not_exists, not_and]
    intro y hy hk
    obtain ⟨e, he, rfl⟩ := List.mem_map.1 hy
    exact hn e he hk
theorem Like.get {M : DM} {L : Pl} (h : Like M L) (key : ByteArray) : getM M key = (atOf key L).map fun i => [.int .i64 (L.getD i (key, 0)).2] := by
  cases ha : atOf key L with
  | some i =>
    obtain ⟨x, hx⟩ := atOf_some ha
    rw [Option.map_some, List.getD_eq_getElem?_getD, hx]
    exact (getM_some h.inv key _).2 (h.perm.mem_iff.2 (List.mem_map.2 ⟨(key, x), List.mem_of_getElem? hx, rfl⟩))
  | none =>
    have hn := atOf_none ha
    cases hg : getM M key with
    | none => rfl
    | some v =>
      obtain ⟨e, he, hee⟩ := List.mem_map.1 (h.perm.mem_iff.1 ((getM_some h.inv key v).1 hg))
      simp only [enPair, Prod.mk.injEq] at hee
      exact absurd hee.1 (hn e he)
/-- two tables that hold the same tell the same -/
theorem get_alike {M N : DM} (hM : Inv M) (hN : Inv N) (h : (tb M).Perm (tb N)) (key : ByteArray) : getM M key = getM N key := by
  cases h1 : getM M key with
  | some v => exact ((getM_some hN key v).2 (h.mem_iff.1 ((getM_some hM key v).1 h1))).symm
  | none =>
    cases h2 : getM N key with
    | none => rfl
    | some v =>
      have := (getM_some hM key v).2 (h.mem_iff.2 ((getM_some hN key v).1 h2))
      rw [h1] at this; cases this
theorem count_tb {M : DM} (h : Inv M) : M.n = (tb M).length := by rw [h.count]; unfold tb; rw [List.length_map]
end Go.Proofs.Ytkecipdonamjaaa

/- The document's dict. No condition. -/
import Derived.Test.YtgomilodeaafdaaBb
import Derived.Test.YtgomilodeaafdaaBa
import Derived.Deep.Light
import Derived.Deep.Cut
import Derived.Deep.LoopGhost
import Derived.Deep.QuietTactic
import Derived.BigQuiet
import Derived.BigRegion
import Derived.Deep.CutBlock
namespace Go.Proofs.Ytgomilodeaafdaa
/-- the names of a chain -/
def nm (c : List E) : List ByteArray := c.map E.key
/-- a table's names -/
structure NM where
  seed : UInt64
  old : List (List ByteArray)
  young : List (List ByteArray)
  at_ : Nat
def nmM (M : DM) : NM := ⟨M.seed, M.old.map nm, M.young.map nm, M.at_⟩
def hangN (seed : UInt64) (cs : List (List ByteArray)) (key : ByteArray) : List (List ByteArray) := cs.modify (slotOf seed cs.length key) (key :: ·)
theorem nm_ne {cs : List (List E)} : cs.map nm = [] ↔ cs = [] := List.map_eq_nil_iff
theorem nm_nil {c : List E} : nm c = [] ↔ c = [] := List.map_eq_nil_iff
theorem map_modify_nm (cs : List (List E)) (e : E) (i : Nat) : (cs.modify i (e :: ·)).map nm = (cs.map nm).modify i (e.key :: ·) := by
  refine List.ext_getElem? fun j => ?_
  rw [List.getElem?_map, List.getElem?_modify, List.getElem?_modify, List.getElem?_map]
  by_cases h : i = j
  · simp only [h, if_true]
    cases cs[j]? <;> rfl
  · simp only [h, if_false]
    cases cs[j]? <;> rfl
theorem nm_hang (seed : UInt64) (cs : List (List E)) (e : E) : (hangM seed cs e).map nm = hangN seed (cs.map nm) e.key := by
  unfold hangM hangN
  rw [List.length_map, map_modify_nm]
theorem nm_foldl (seed : UInt64) (c : List E) : ∀ Y : List (List E), (c.foldl (hangM seed) Y).map nm = (nm c).foldl (hangN seed) (Y.map nm) := by
  induction c with
  | nil => intro Y; rfl
  | cons e c ih => intro Y; show (c.foldl (hangM seed) (hangM seed Y e)).map nm = (nm c).foldl (hangN seed) (hangN seed (Y.map nm) e.key); rw [ih, nm_hang]
theorem modify_set {α : Type} (cs : List α) (i : Nat) (f : α → α) (c : α) (hc : cs[i]? = some c) : cs.modify i f = cs.set i (f c) := by
  refine List.ext_getElem? fun j => ?_
  rw [List.getElem?_modify, List.getElem?_set]
  by_cases h : i = j
  · subst h
    simp only [if_true, hc, (List.getElem?_eq_some_iff.1 hc).1]
    rfl
  · simp only [h, if_false]
    simp
theorem hangN_length (seed : UInt64) (cs : List (List ByteArray)) (k : ByteArray) : (hangN seed cs k).length = cs.length := by simp [hangN]
theorem hangN_eq (seed : UInt64) (cs : List (List ByteArray)) (k : ByteArray) (c : List ByteArray) (hc : cs[slotOf seed cs.length k]? = some c) : hangN seed cs k = cs.set (slotOf seed cs.length k) (k :: c) := by
  unfold hangN
  exact modify_set cs _ (k :: ·) c hc
theorem foldlN_length (seed : UInt64) (l : List ByteArray) : ∀ cs : List (List ByteArray), (l.foldl (hangN seed) cs).length = cs.length := by
  induction l with
  | nil => intro cs; rfl
  | cons k l ih => intro cs; show (l.foldl (hangN seed) (hangN seed cs k)).length = _; rw [ih, hangN_length]
def passN (old : List (List ByteArray)) : Nat → Nat → Nat
  | 0, a => a
  | k + 1, a => match old[a]? with
    | some [] => passN old k (a + 1)
    | _ => a
theorem nm_pass (old : List (List E)) : ∀ k a, passN (old.map nm) k a = passM old k a := by
  intro k
  induction k with
  | zero => intro a; rfl
  | succ k ih =>
    intro a
    unfold passN passM
    rw [List.getElem?_map]
    cases old[a]? with
    | none => rfl
    | some c =>
      cases c with
      | nil => exact ih (a + 1)
      | cons e c => rfl
def moveN (N : NM) (a : Nat) : NM := match N.old[a]? with
  | some (k :: r) => { N with old := N.old.set a [], young := (k :: r).foldl (hangN N.seed) N.young, at_ := a + 1 }
  | _ => { N with at_ := a }
def endN (N : NM) : NM := if N.at_ = N.old.length then { N with old := N.young, young := [], at_ := 0 } else N
def stepN (N : NM) : NM := if N.young = [] then N else endN (moveN N (passN N.old 10 N.at_))
theorem nm_move (M : DM) (a : Nat) : nmM (moveM M a) = moveN (nmM M) a := by
  unfold moveM moveN nmM
  simp only [List.getElem?_map]
  cases M.old[a]? with
  | none => rfl
  | some c =>
    cases c with
    | nil => rfl
    | cons e r =>
      simp only [Option.map_some, List.map_set]
      show NM.mk _ _ _ _ = NM.mk _ _ _ _
      rw [nm_foldl]
      rfl
theorem nm_end (M : DM) : nmM (endM M) = endN (nmM M) := by
  unfold endM endN
  show nmM (if _ then _ else _) = if M.at_ = (M.old.map nm).length then _ else _
  rw [List.length_map]
  split <;> rfl
theorem nm_step (M : DM) : nmM (stepM M) = stepN (nmM M) := by
  unfold stepM stepN
  show nmM (if _ then _ else _) = if M.young.map nm = [] then _ else endN (moveN (nmM M) (passN (M.old.map nm) 10 M.at_))
  rw [nm_pass]
  by_cases h : M.young = []
  · rw [if_pos h, if_pos (nm_ne.2 h)]
  · rw [if_neg h, if_neg (fun e => h (nm_ne.1 e)), nm_end, nm_move]
def growN (N : NM) (n : Nat) : NM :=
  if N.old = [] then { N with old := List.replicate 4 [] }
  else if N.young = [] ∧ N.old.length ≤ n then { N with young := List.replicate (2 * N.old.length) [], at_ := 0 } else N
def addN (N : NM) (key : ByteArray) : NM := if N.young = [] then { N with old := hangN N.seed N.old key } else { N with young := hangN N.seed N.young key }
theorem nm_rep (n : Nat) : (List.replicate n ([] : List E)).map nm = List.replicate n [] := by simp [nm]
theorem nm_grow {M : DM} (h : Inv M) (t : Nat) : nmM (growM M t) = growN (nmM M) M.n := by
  unfold growM growN
  show nmM (if _ then _ else _) = if M.old.map nm = [] then _ else if M.young.map nm = [] ∧ (M.old.map nm).length ≤ M.n then _ else _
  rw [List.length_map]
  by_cases ho : M.old = []
  · rw [if_pos ho, if_pos (nm_ne.2 ho)]
    unfold nmM
    simp only [nm_rep]
  · rw [if_neg ho, if_neg (fun e => ho (nm_ne.1 e))]
    by_cases hy : M.young = [] ∧ M.old.length ≤ M.n
    · rw [if_pos hy, if_pos ⟨nm_ne.2 hy.1, hy.2⟩]
      unfold nmM
      simp only [nm_rep, List.length_map, h.still hy.1]
    · rw [if_neg hy, if_neg (fun e => hy ⟨nm_ne.1 e.1, e.2⟩)]
theorem nm_add (M : DM) (e : E) : nmM (addM M e) = addN (nmM M) e.key := by
  unfold addM addN
  show nmM (if _ then _ else _) = if M.young.map nm = [] then _ else _
  by_cases h : M.young = []
  · rw [if_pos h, if_pos (nm_ne.2 h)]
    unfold nmM
    simp only [nm_hang]
  · rw [if_neg h, if_neg (fun e => h (nm_ne.1 e))]
    unfold nmM
    simp only [nm_hang]
/-- what Set makes of the names; n: how many there were -/
def setN (N : NM) (key : ByteArray) (there : Bool) (n : Nat) : NM := if there then stepN N else addN (growN (stepN N) n) key
theorem map_set_same {α β : Type} (f : α → β) (l : List α) (i : Nat) (x y : α) (h : l[i]? = some x) (hf : f y = f x) : (l.set i y).map f = l.map f := by
  refine List.ext_getElem? fun j => ?_
  rw [List.getElem?_map, List.getElem?_map, List.getElem?_set]
  split
  · rename_i e
    subst e
    rw [if_pos (List.getElem?_eq_some_iff.1 h).1, h]
    simp [hf]
  · rfl
theorem nm_put {M N : DM} {key : ByteArray} {v : List Value} (h : putM M key v = some N) : nmM N = nmM M := by
  unfold putM at h
  split at h
  · rename_i i pre e post hl
    obtain ⟨h1, h2, h3, h4⟩ := locT_some hl
    cases h
    unfold nmM putT
    simp only
    rw [map_set_same nm M.old i _ _ h2 (by simp [nm])]
  · split at h
    · rename_i i pre e post hl
      obtain ⟨h1, h2, h3, h4⟩ := locT_some hl
      cases h
      unfold nmM putT
      simp only
      rw [map_set_same nm M.young i _ _ h2 (by simp [nm])]
    · cases h
theorem nm_set {M : DM} (h : Inv M) (key : ByteArray) (v : List Value) (t b : Nat) : nmM (setM M key v t b) = setN (nmM M) key (hasK (tb M) key) M.n := by
  have hs := inv_step M h
  unfold setN
  rw [← nm_step]
  cases hk : hasK (tb M) key with
  | false =>
    rw [set_new h key v t b hk, nm_add, nm_grow hs, (step_lens M).2.2.2]
    rfl
  | true =>
    rw [if_pos rfl]
    unfold setM
    cases hp : putM (stepM M) key v with
    | some N => exact nm_put hp
    | none =>
      have := no_has (put_none hs key v hp).1
      rw [has_step h, hk] at this
      cases this
/-- a chain without a key -/
def woN (key : ByteArray) (l : List ByteArray) : List ByteArray := l.filter fun x => decide (x ≠ key)
def cutN (seed : UInt64) (cs : List (List ByteArray)) (key : ByteArray) : List (List ByteArray) := cs.modify (slotOf seed cs.length key) (woN key)
theorem cutN_length (seed : UInt64) (cs : List (List ByteArray)) (k : ByteArray) : (cutN seed cs k).length = cs.length := by simp [cutN]
theorem cutN_eq (seed : UInt64) (cs : List (List ByteArray)) (k : ByteArray) (c : List ByteArray) (hc : cs[slotOf seed cs.length k]? = some c) : cutN seed cs k = cs.set (slotOf seed cs.length k) (woN k c) := by
  unfold cutN
  exact modify_set cs _ (woN k) c hc
def dropN (N : NM) (key : ByteArray) : NM := { N with old := cutN N.seed N.old key, young := cutN N.seed N.young key }
def shrinkN (N : NM) (n : Nat) : NM := if N.young = [] ∧ 4 < N.old.length ∧ 8 * n ≤ N.old.length then { N with young := List.replicate (fitM n 64 4) [], at_ := 0 } else N
/-- what Delete makes of the names; n: how many there were -/
def delN (N : NM) (key : ByteArray) (there : Bool) (n : Nat) : NM := if there then shrinkN (dropN (stepN N) key) (n - 1) else stepN N
theorem wo_not {key : ByteArray} {l : List ByteArray} (h : ∀ x ∈ l, x ≠ key) : woN key l = l := by
  unfold woN
  rw [List.filter_eq_self]
  intro x hx
  simpa using h x hx
theorem cut_not {seed : UInt64} {cs : List (List E)} {key : ByteArray} (h : ∀ e ∈ cs.flatten, e.key ≠ key) : cutN seed (cs.map nm) key = cs.map nm := by
  unfold cutN
  refine List.ext_getElem? fun j => ?_
  rw [List.getElem?_modify]
  split
  · rw [List.getElem?_map]
    cases hc : cs[j]? with
    | none => rfl
    | some c =>
      simp only [Option.map_some]
      show some (woN key (nm c)) = _
      rw [wo_not]
      intro x hx
      obtain ⟨e, he, rfl⟩ := List.mem_map.1 hx
      exact h e (List.mem_flatten.2 ⟨c, List.mem_of_getElem? hc, he⟩)
  · simp
theorem cut_there {seed : UInt64} {cs : List (List E)} {key : ByteArray} {i : Nat} {pre post : List E} {e : E} (h : locT seed cs key = some (i, pre, e, post)) (hd : (cs.flatten.map E.key).Nodup) : cutN seed (cs.map nm) key = (delT cs i pre post).map nm := by
  obtain ⟨h1, h2, h3, h4⟩ := locT_some h
  have hi := (List.getElem?_eq_some_iff.1 h2).1
  rw [cutN_eq seed (cs.map nm) key (nm (pre ++ e :: post)) (by rw [List.length_map, h1, List.getElem?_map, h2]; rfl), List.length_map, h1]
  unfold delT
  rw [List.map_set]
  congr 1
  have hnd : ((pre ++ e :: post).map E.key).Nodup := by
    refine List.Nodup.sublist ?_ hd
    refine List.Sublist.map _ ?_
    exact List.sublist_flatten_of_mem (List.mem_of_getElem? h2)
  rw [List.map_append, List.map_cons, List.nodup_append] at hnd
  have hpost : ∀ x ∈ nm post, x ≠ key := by
    intro x hx hk
    have := (List.nodup_cons.1 hnd.2.1).1
    rw [h3, ← hk] at this
    exact this hx
  have hpre : ∀ x ∈ nm pre, x ≠ key := by
    intro x hx
    obtain ⟨y, hy, rfl⟩ := List.mem_map.1 hx
    exact h4 y hy
  unfold nm woN
  rw [List.map_append, List.map_cons, List.filter_append, List.filter_cons, if_neg (by simp [h3]), List.map_append]
  congr 1
  · exact wo_not hpre
  · exact wo_not hpost
theorem nm_drop {M N : DM} (h : Inv M) {key : ByteArray} (hN : dropM M key = some N) : nmM N = dropN (nmM M) key := by
  have hk := h.keys
  unfold entries at hk
  rw [List.map_append, List.nodup_append] at hk
  obtain ⟨k1, k2, k3⟩ := hk
  unfold dropM at hN
  split at hN
  · rename_i i pre e post hl
    obtain ⟨h1, h2, h3, h4⟩ := locT_some hl
    cases hN
    unfold nmM dropN
    simp only
    rw [cut_there hl k1, cut_not]
    intro x hx hxk
    have he : e ∈ M.old.flatten := List.mem_flatten.2 ⟨_, List.mem_of_getElem? h2, by simp⟩
    exact k3 e.key (List.mem_map_of_mem he) x.key (List.mem_map_of_mem hx) (by rw [h3, hxk])
  · rename_i hl0
    split at hN
    · rename_i i pre e post hl
      cases hN
      unfold nmM dropN
      simp only
      rw [cut_there hl k2, cut_not (placed_none h.pold hl0)]
    · cases hN
theorem nm_shrink {M : DM} (h : Inv M) (t : Nat) : nmM (shrinkM M t) = shrinkN (nmM M) M.n := by
  unfold shrinkM shrinkN
  show nmM (if _ then _ else _) = if M.young.map nm = [] ∧ 4 < (M.old.map nm).length ∧ 8 * M.n ≤ (M.old.map nm).length then _ else _
  rw [List.length_map]
  by_cases hc : M.young = [] ∧ 4 < M.old.length ∧ 8 * M.n ≤ M.old.length
  · rw [if_pos hc, if_pos ⟨nm_ne.2 hc.1, hc.2⟩]
    unfold nmM
    simp only [nm_rep, h.still hc.1]
  · rw [if_neg hc, if_neg (fun e => hc ⟨nm_ne.1 e.1, e.2⟩)]
theorem nm_del {M : DM} (h : Inv M) (key : ByteArray) (t : Nat) : nmM (delM M key t) = delN (nmM M) key (hasK (tb M) key) M.n := by
  have hs := inv_step M h
  unfold delN
  rw [← nm_step]
  unfold delM
  cases hd : dropM (stepM M) key with
  | none =>
    have := no_has (drop_none hs key hd).1
    rw [has_step h] at this
    rw [this]
    rfl
  | some N =>
    obtain ⟨i1, _, ⟨u, hu⟩, _, _, _, i7, _⟩ := inv_drop hs key hd
    have hk := has_of_mem hu
    rw [has_step h] at hk
    rw [hk, if_pos rfl]
    show nmM (shrinkM N t) = _
    rw [nm_shrink i1, nm_drop hs hd, show N.n = M.n - 1 by rw [← (step_lens M).2.2.2]; omega]
/-- the names stand in a table that package dict may have; K: the keys as they came -/
def Fit (N : NM) (K : List ByteArray) : Prop := ∃ M, Inv M ∧ nmM M = N ∧ ((entries M).map E.key).Perm K
theorem nm_flat (cs : List (List E)) : (cs.map nm).flatten = cs.flatten.map E.key := by
  induction cs with
  | nil => rfl
  | cons c cs ih => rw [List.map_cons, List.flatten_cons, List.flatten_cons, List.map_append, ih]; rfl
section
variable {N : NM} {K : List ByteArray}
theorem Fit.step (h : Fit N K) : Fit (stepN N) K := by
  obtain ⟨M, h1, rfl, h3⟩ := h
  exact ⟨stepM M, inv_step M h1, nm_step M, ((step_perm M h1).map _).trans h3⟩
theorem Fit.perm (h : Fit N K) : (N.old.flatten ++ N.young.flatten).Perm K := by
  obtain ⟨M, h1, rfl, h3⟩ := h
  show ((M.old.map nm).flatten ++ (M.young.map nm).flatten).Perm K
  rw [nm_flat, nm_flat, ← List.map_append]
  exact h3
theorem Fit.mov (h : Fit N K) (hy : N.young ≠ []) : N.at_ < N.old.length := by
  obtain ⟨M, h1, rfl, h3⟩ := h
  show M.at_ < (M.old.map nm).length
  rw [List.length_map]
  exact h1.moving fun e => hy (nm_ne.2 e)
theorem Fit.still (h : Fit N K) (hy : N.young = []) : N.at_ = 0 := by
  obtain ⟨M, h1, rfl, h3⟩ := h
  exact h1.still (nm_ne.1 hy)
theorem Fit.count (h : Fit N K) : N.old.flatten.length + N.young.flatten.length = K.length := by
  have := h.perm.length_eq
  rwa [List.length_append] at this
theorem Fit.nodup (h : Fit N K) : K.Nodup := by
  obtain ⟨M, h1, rfl, h3⟩ := h
  exact h3.nodup_iff.1 h1.keys
theorem Fit.key_old (h : Fit N K) {c : List ByteArray} (hc : c ∈ N.old) {k : ByteArray} (hk : k ∈ c) : k ∈ K := h.perm.mem_iff.1 (List.mem_append.2 (.inl (List.mem_flatten.2 ⟨c, hc, hk⟩)))
theorem Fit.key_young (h : Fit N K) {c : List ByteArray} (hc : c ∈ N.young) {k : ByteArray} (hk : k ∈ c) : k ∈ K := h.perm.mem_iff.1 (List.mem_append.2 (.inr (List.mem_flatten.2 ⟨c, hc, hk⟩)))
theorem len_flat {α : Type} {cs : List (List α)} {c : List α} (h : c ∈ cs) : c.length ≤ cs.flatten.length := (List.sublist_flatten_of_mem h).length_le
theorem Fit.len_old (h : Fit N K) {c : List ByteArray} (hc : c ∈ N.old) : c.length ≤ K.length := by
  have := len_flat hc
  have := h.count
  omega
theorem Fit.len_young (h : Fit N K) {c : List ByteArray} (hc : c ∈ N.young) : c.length ≤ K.length := by
  have := len_flat hc
  have := h.count
  omega
theorem Fit.hasK {M : DM} (h3 : ((entries M).map E.key).Perm K) {key : ByteArray} {b : Bool} (hb : b = true ↔ key ∈ K) : hasK (tb M) key = b := by
  cases b with
  | true =>
    obtain ⟨e, he, rfl⟩ := List.mem_map.1 (h3.mem_iff.2 (hb.1 rfl))
    exact has_of_mem (u := e.val) (List.mem_map.2 ⟨e, he, rfl⟩)
  | false => exact no_has fun e he hek => absurd (hb.2 (h3.mem_iff.1 (List.mem_map.2 ⟨e, he, hek⟩))) (by decide)
theorem tbDel_keys {M : DM} (h3 : ((entries M).map E.key).Perm K) (key : ByteArray) : ((tbDel key (tb M)).map (·.1)).Perm (K.filter fun x => decide (x ≠ key)) := by
  unfold tbDel
  have e : ((tb M).filter fun x => decide (x.1 ≠ key)).map (·.1) = ((tb M).map (·.1)).filter fun x => decide (x ≠ key) := by
    rw [List.filter_map]; rfl
  rw [e, tb_keys]
  exact h3.filter _
theorem filter_back {key : ByteArray} (hnd : K.Nodup) (hm : key ∈ K) : (key :: K.filter fun x => decide (x ≠ key)).Perm K := by
  induction K with
  | nil => cases hm
  | cons a K ih =>
    obtain ⟨h1, h2⟩ := List.nodup_cons.1 hnd
    by_cases ha : a = key
    · subst ha
      rw [List.filter_cons, if_neg (by simp)]
      have : (K.filter fun x => decide (x ≠ a)) = K := by
        rw [List.filter_eq_self]
        intro x hx
        rw [decide_eq_true_eq]
        rintro rfl
        exact h1 hx
      rw [this]
    · rw [List.filter_cons, if_pos (by simpa using ha)]
      rcases List.mem_cons.1 hm with e | hm
      · exact absurd e.symm ha
      · exact (List.Perm.swap _ _ _).trans ((ih h2 hm).cons a)
/-- the key is there, or not: the same as package dict says -/
theorem Fit.set (h : Fit N K) (key : ByteArray) (b : Bool) (hb : b = true ↔ key ∈ K) : Fit (setN N key b K.length) (if b then K else K ++ [key]) := by
  obtain ⟨M, h1, rfl, h3⟩ := h
  obtain ⟨i1, i2⟩ := set_inv h1 key [] 0 0
  have hn : M.n = K.length := by rw [h1.count, ← h3.length_eq, List.length_map]
  refine ⟨_, i1, by rw [nm_set h1, Fit.hasK h3 hb, hn], ?_⟩
  have h4 := i2.map (·.1)
  rw [tb_keys] at h4
  refine h4.trans ?_
  unfold tbSet
  rw [List.map_cons]
  refine ((tbDel_keys h3 key).cons _).trans ?_
  have hnd := h3.nodup_iff.1 h1.keys
  cases b with
  | true => exact filter_back hnd (hb.1 rfl)
  | false =>
    have hm : ¬ key ∈ K := fun e => absurd (hb.2 e) (by decide)
    have e2 : (K.filter fun x => decide (x ≠ key)) = K := by
      rw [List.filter_eq_self]
      intro x hx
      rw [decide_eq_true_eq]
      rintro rfl
      exact hm hx
    rw [e2]
    exact (List.perm_append_singleton key K).symm
theorem Fit.del (h : Fit N K) (key : ByteArray) (b : Bool) (hb : b = true ↔ key ∈ K) : Fit (delN N key b K.length) (K.filter fun x => decide (x ≠ key)) := by
  obtain ⟨M, h1, rfl, h3⟩ := h
  obtain ⟨i1, i2⟩ := del_inv h1 key 0
  have hn : M.n = K.length := by rw [h1.count, ← h3.length_eq, List.length_map]
  refine ⟨_, i1, by rw [nm_del h1, Fit.hasK h3 hb, hn], ?_⟩
  have h4 := i2.map (·.1)
  rw [tb_keys] at h4
  exact h4.trans (tbDel_keys h3 key)
end
theorem modify_flat {α : Type} (x : α) : ∀ (cs : List (List α)) (i : Nat), i < cs.length → (cs.modify i (x :: ·)).flatten.length = cs.flatten.length + 1
  | [], i, h => by simp at h
  | c :: cs, 0, _ => by simp [Nat.add_right_comm]
  | c :: cs, i + 1, h => by
    have := modify_flat x cs i (by simpa using h)
    simp only [List.modify_succ_cons, List.flatten_cons, List.length_append, this]
    omega
theorem hang_flat (seed : UInt64) (cs : List (List ByteArray)) (k : ByteArray) (h : cs ≠ []) : (hangN seed cs k).flatten.length = cs.flatten.length + 1 :=
  modify_flat k cs _ (slotOf_lt seed cs.length k (List.length_pos_iff.2 h))
theorem foldl_flat (seed : UInt64) (l : List ByteArray) : ∀ cs : List (List ByteArray), cs ≠ [] → (l.foldl (hangN seed) cs).flatten.length = l.length + cs.flatten.length := by
  induction l with
  | nil => intro cs _; rw [List.foldl_nil, List.length_nil, Nat.zero_add]
  | cons k l ih =>
    intro cs hne
    have h1 : hangN seed cs k ≠ [] := by
      intro e
      have h2 := hangN_length seed cs k
      rw [e] at h2
      exact hne (List.length_eq_zero_iff.1 h2.symm)
    rw [List.foldl_cons, ih _ h1, hang_flat seed cs k hne, List.length_cons]
    omega
theorem stepN_lens {N : NM} {n : Nat} (ho : N.old.length ≤ n) (hy : N.young.length ≤ n) : (stepN N).old.length ≤ n ∧ (stepN N).young.length ≤ n := by
  unfold stepN
  split
  · exact ⟨ho, hy⟩
  · have hm : ∀ a, (moveN N a).old.length = N.old.length ∧ (moveN N a).young.length = N.young.length := fun a => by
      unfold moveN
      split
      · exact ⟨List.length_set .., foldlN_length _ _ _⟩
      · exact ⟨rfl, rfl⟩
    obtain ⟨h1, h2⟩ := hm (passN N.old 10 N.at_)
    unfold endN
    split
    · exact ⟨by rw [h2]; exact hy, Nat.zero_le _⟩
    · exact ⟨by rw [h1]; exact ho, by rw [h2]; exact hy⟩
end Go.Proofs.Ytgomilodeaafdaa
namespace Go.Proofs.Ytgomilodeaafdaa
open Go.RowKit

theorem tmod_nonneg (x m : Int) (h : 0 ≤ x) : x.tmod m = x % m := Int.tmod_eq_emod_of_nonneg h
theorem times_arith (x y : Int) (hx : 0 ≤ x) (hy : 0 ≤ y) :
    IntKind.u64.wrap (IntKind.u64.wrap (x.tmod 4294967296 * y.tmod 4294967296) + IntKind.u64.wrap ((IntKind.u64.wrap (IntKind.u64.wrap (x / 4294967296 * y.tmod 4294967296) +
      IntKind.u64.wrap (x.tmod 4294967296 * (y / 4294967296)))).tmod 4294967296 * 4294967296)) = IntKind.u64.wrap (x * y) := by
  rw [tmod_nonneg _ _ hx, tmod_nonneg _ _ hy]
  simp only [IntKind.wrap_u64]
  rw [tmod_nonneg _ _ (by omega)]
  have e : x * y = (x / 4294967296 * (y / 4294967296)) * 18446744073709551616 + (x / 4294967296 * (y % 4294967296) + x % 4294967296 * (y / 4294967296)) * 4294967296 + x % 4294967296 * (y % 4294967296) := by
    have hx' := Int.mul_ediv_add_emod x 4294967296
    have hy' := Int.mul_ediv_add_emod y 4294967296
    generalize x / 4294967296 = xh at *; generalize x % 4294967296 = xl at *
    generalize y / 4294967296 = yh at *; generalize y % 4294967296 = yl at *
    subst hx'; subst hy'
    grind
  rw [e]
  generalize x / 4294967296 * (y / 4294967296) = p4
  generalize x / 4294967296 * (y % 4294967296) = p2
  generalize x % 4294967296 * (y / 4294967296) = p3
  generalize x % 4294967296 * (y % 4294967296) = p1
  omega
theorem wd_quo (a : UInt64) (m : Int) (hm : 0 < m) : IntKind.u64.wrap ((wd a).tdiv m) = wd a / m := by
  rw [Int.tdiv_eq_ediv_of_nonneg (wd_nonneg a), IntKind.wrap_u64]
  have h1 := wd_lt a
  have h2 := wd_nonneg a
  have h3 : wd a / m ≤ wd a := Int.ediv_le_self _ h2
  have h4 : 0 ≤ wd a / m := Int.ediv_nonneg h2 (by omega)
  omega
set_option maxHeartbeats 400000 in
theorem times_any (x y : Int) (a b : UInt64) (hx : x = wd a) (hy : y = wd b) (w : World) :
    Calls Try.prog 216 #[.int .u64 x, .int .u64 y] w fun e w' => e = .returned (.int .u64 (wd (a * b))) ∧ w = w' := by
  have X := Lib.hid hx; clear hx
  have Y := Lib.hid hy; clear hy
  go_enter Try.func216, Try.ntmps216
  go_wp2
  go_ret
  go_light
  refine ⟨ret_u64 ?_, rfl⟩
  rw [X.out, Y.out, times_arith _ _ (wd_nonneg _) (wd_nonneg _), wd_mul]

set_option maxHeartbeats 400000 in
theorem refHash_any (seed : UInt64) (s : ByteArray) (w : World) (hs : s.size ≤ maxLen) :
    Calls Try.prog 182 #[.int .u64 (wd seed), .string s] w fun e w' => e = .returned (.int .u64 (wd (hash seed s.data.toList))) ∧ w = w' := by
  unfold maxLen at hs
  go_enter Try.func182, Try.ntmps182
  go_wp2
  go_loop [5, 11] (fun h i => ∃ k : Nat, k ≤ s.size ∧ i = .int .i64 k ∧ h = .int .u64 (wd (hfold (14695981039346656037 ^^^ seed) (s.data.toList.take k)))) (fun _ i => s.size - (intOf i).toNat)
  case atStart => exact ⟨0, Nat.zero_le _, rfl, val_u64 (h_start seed)⟩
  case round =>
    obtain ⟨k, hk, rfl, rfl⟩ := hrel
    by_cases hlt : k < s.size
    · go_wp2_with fail
      refine (times_any _ _ (hfold (14695981039346656037 ^^^ seed) (s.data.toList.take k) ^^^ s[k].toUInt64) 1099511628211 (by rw [← wd_xor, ← wd_byte]) rfl _).mono ?_
      rintro e w' ⟨rfl, rfl⟩
      go_wp2
      go_round
      case rel => exact ⟨k + 1, by omega, by go_num, by rw [take_snoc s k hlt, hfold_snoc, hstep]⟩
      case measure => simp [intOf]; omega
    · have hall : s.data.toList.take k = s.data.toList := List.take_of_length_le (by simp; omega)
      have HA := Lib.hid hall; clear hall
      go_wp2_with fail
      refine (times_any _ _ (hfold (14695981039346656037 ^^^ seed) (s.data.toList.take k) ^^^ (hfold (14695981039346656037 ^^^ seed) (s.data.toList.take k) >>> 32)) 11400714819323198485 (by rw [wd_quo _ _ (by decide), wd_shr32, wd_xor]) rfl _).mono ?_
      rintro e w' ⟨rfl, rfl⟩
      go_wp2
      go_ret
      go_light
      refine ⟨ret_u64 ?_, rfl⟩
      rw [wd_quo _ _ (by decide), wd_shr29, wd_xor, HA.out]; rfl
end Go.Proofs.Ytgomilodeaafdaa
namespace Go.Proofs.Ytgomilodeaafdaa
open Go.RowKit
/-- where its parts lie -/
structure RB where
  t1 : Nat
  r1 : List Value
  t2 : Nat
  r2 : List Value
  kv : Value
  vv : Value
def rowV (t : Nat) (r : List Value) : Value := if r = [] then .slice none 0 0 else .slice (some ⟨t, 0, none⟩) r.length r.length
theorem rowV_nil (t : Nat) : rowV t [] = .slice none 0 0 := rfl
theorem rowV_of {t : Nat} {r : List Value} (h : r ≠ []) : rowV t r = .slice (some ⟨t, 0, none⟩) r.length r.length := by unfold rowV; rw [if_neg h]
theorem rowV_eq (t : Nat) (r : List Value) : ∃ a, rowV t r = .slice a r.length r.length := by
  by_cases h : r = []
  · subst h; exact ⟨_, rfl⟩
  · exact ⟨_, rowV_of h⟩
theorem rowV_len (t : Nat) {r s : List Value} (h : r.length = s.length) : rowV t r = rowV t s := by
  by_cases hr : r = []
  · subst hr
    have : s = [] := List.length_eq_zero_iff.1 h.symm
    rw [this]
  · have : s ≠ [] := by intro e; rw [e] at h; exact hr (List.length_eq_zero_iff.1 h)
    rw [rowV_of hr, rowV_of this, h]
def rdO (seed : UInt64) (a : Nat) (X : RB) : Obj := .cells #[.int .u64 (wd seed), rowV X.t1 X.r1, rowV X.t2 X.r2, .int .i64 a, X.kv, X.vv] 119 (0, 0)
/-- a chain of texts in a block of F -/
def ChV (w : World) (F : Nat → Prop) (v : Value) (c : List ByteArray) : Prop := RdC w 1 v c.length (c.map .string) ∧ ∀ g, v.ownBlock = some g → F g ∧ BT 9 w g
/-- a table: its row, and its chains -/
structure RowsV (w : World) (F : Nat → Prop) (t : Nat) (r : List Value) (cs : List (List ByteArray)) : Prop where
  len : r.length = cs.length
  blk : r ≠ [] → w.heap[t]? = some (.cells r.toArray 39 (0, 0)) ∧ F t
  ch : ∀ (i : Nat) (c : List ByteArray), cs[i]? = some c → ∃ v, r[i]? = some v ∧ ChV w F v c
section
variable {w w' : World} {F F' T : Nat → Prop} {t : Nat} {r : List Value} {cs : List (List ByteArray)} {v : Value} {c : List ByteArray}
theorem ChV.other (h : ChV w F v c) (hf : Fr T w w') (hd : ∀ k, F k → T k → ¬ BT 9 w k) : ChV w' F v c :=
  ⟨h.1.fr hf (fun g hg ht => hd g (h.2 g hg).1 ht (h.2 g hg).2), fun g hg => ⟨(h.2 g hg).1, (h.2 g hg).2.fr hf (fun ht => hd g (h.2 g hg).1 ht (h.2 g hg).2)⟩⟩
theorem ChV.wide (h : ChV w F v c) (hF : ∀ k, F k → F' k) : ChV w F' v c := ⟨h.1, fun g hg => ⟨hF g (h.2 g hg).1, (h.2 g hg).2⟩⟩
theorem ChV.but (h : ChV w F v c) (hf : Fr T w w') (hd : ∀ g, v.ownBlock = some g → ¬ T g) : ChV w' F v c :=
  ⟨h.1.fr hf hd, fun g hg => ⟨(h.2 g hg).1, (h.2 g hg).2.fr hf (hd g hg)⟩⟩
theorem ChV.nil : ChV w F (.slice none 0 0) [] := ⟨RdC.nil _ _, fun g hg => (by cases hg)⟩
theorem ChV.slice (h : ChV w F v c) : ∃ a cap, v = .slice a c.length cap := rd_sliceN h.1
theorem RowsV.nil : RowsV w F t [] [] := ⟨rfl, fun h => absurd rfl h, fun i c h => (by simp at h)⟩
theorem RowsV.other (h : RowsV w F t r cs) (hf : Fr T w w') (hd : ∀ k, F k → ¬ T k) : RowsV w' F t r cs :=
  ⟨h.len, fun hr => ⟨(hf.block t (Array.getElem?_eq_some_iff.1 (h.blk hr).1).1 (hd t (h.blk hr).2)).trans (h.blk hr).1, (h.blk hr).2⟩, fun i c hc => by
    obtain ⟨v, h1, h2⟩ := h.ch i c hc
    exact ⟨v, h1, h2.other hf (fun k hk ht => absurd ht (hd k hk))⟩⟩
/-- blocks other than the row's and its chains' are written -/
theorem RowsV.but (h : RowsV w F t r cs) (hf : Fr T w w') (ht : r ≠ [] → ¬ T t) (hd : ∀ v ∈ r, ∀ g, v.ownBlock = some g → ¬ T g) : RowsV w' F t r cs :=
  ⟨h.len, fun hr => ⟨(hf.block t (Array.getElem?_eq_some_iff.1 (h.blk hr).1).1 (ht hr)).trans (h.blk hr).1, (h.blk hr).2⟩, fun i c hc => by
    obtain ⟨v, h1, h2⟩ := h.ch i c hc
    exact ⟨v, h1, h2.but hf (hd v (List.mem_of_getElem? h1))⟩⟩
theorem RowsV.wide (h : RowsV w F t r cs) (hF : ∀ k, F k → F' k) : RowsV w F' t r cs :=
  ⟨h.len, fun hr => ⟨(h.blk hr).1, hF t (h.blk hr).2⟩, fun i c hc => by
    obtain ⟨v, h1, h2⟩ := h.ch i c hc
    exact ⟨v, h1, h2.wide hF⟩⟩
theorem RowsV.at (h : RowsV w F t r cs) (i : Nat) (c : List ByteArray) (hc : cs[i]? = some c) :
    ∃ v, r[i]? = some v ∧ r ≠ [] ∧ w.cell? ⟨t, i, none⟩ = some v ∧ w.frozen? ⟨t, i, none⟩ = false ∧ ChV w F v c := by
  obtain ⟨v, h1, h2⟩ := h.ch i c hc
  have hr : r ≠ [] := by intro e; rw [e] at h1; simp at h1
  refine ⟨v, h1, hr, ?_, free_of_blk (h.blk hr).1 i, h2⟩
  rw [cell_of_blk (h.blk hr).1]
  simpa using h1
theorem RowsV.bt (h : RowsV w F t r cs) (hr : r ≠ []) : BT 39 w t := ⟨_, (h.blk hr).1⟩
/-- one chain is laid anew -/
theorem RowsV.set (h : RowsV w F t r cs) (i : Nat) (c : List ByteArray) (hi : i < cs.length) (hv : ChV w F v c) : RowsV (w.setCell ⟨t, i, none⟩ v) F t (r.set i v) (cs.set i c) := by
  have hr : r ≠ [] := by intro e; have := h.len; rw [e] at this; simp at this; omega
  have hb := h.bt hr
  have hne : ∀ g, BT 9 w g → ¬ g = t := fun g hg e => absurd e (hg.ne hb (by decide))
  have hF : ∀ k, F k → k = t → ¬ BT 9 w k := fun k _ e hk => hne k hk e
  refine ⟨by simp [h.len], fun _ => ⟨?_, (h.blk hr).2⟩, fun j c' hc => ?_⟩
  · rw [heap_setCell_same w t i _ _ v (h.blk hr).1]
    simp
  · rw [List.getElem?_set] at hc
    split at hc
    · rename_i hij
      subst hij
      first
        | (split at hc
           · cases hc
             exact ⟨v, by rw [List.getElem?_set, if_pos rfl, if_pos (by rw [h.len]; exact hi)], hv.other (Fr.setCell w ⟨t, i, none⟩ v) hF⟩
           · cases hc)
        | (cases hc
           exact ⟨v, by rw [List.getElem?_set, if_pos rfl, if_pos (by rw [h.len]; exact hi)], hv.other (Fr.setCell w ⟨t, i, none⟩ v) hF⟩)
    · rename_i hij
      obtain ⟨u, h1, h2⟩ := h.ch j c' hc
      exact ⟨u, by rw [List.getElem?_set, if_neg hij]; exact h1, h2.other (Fr.setCell w ⟨t, i, none⟩ v) hF⟩
/-- a row of empty chains -/
theorem RowsV.fresh {n : Nat} (hb : w.heap[t]? = some (.cells (List.replicate n (.slice none 0 0)).toArray 39 (0, 0))) (hF : F t) : RowsV w F t (List.replicate n (.slice none 0 0)) (List.replicate n []) := by
  refine ⟨by simp, fun _ => ⟨hb, hF⟩, fun i c hc => ?_⟩
  rw [List.getElem?_replicate] at hc
  split at hc
  · rename_i hi
    cases hc
    exact ⟨_, by rw [List.getElem?_replicate, if_pos hi], ChV.nil⟩
  · cases hc
end
/-- the keys in the order in which they came, each with its number -/
structure RefC (w : World) (B p : Nat) (F : Nat → Prop) (N : NM) (K : List ByteArray) (V : List Int) (X : RB) : Prop where
  blk : w.heap[p]? = some (rdO N.seed N.at_ X)
  fp : F p
  row1 : RowsV w F X.t1 X.r1 N.old
  row2 : RowsV w F X.t2 X.r2 N.young
  tt : X.r1 ≠ [] → X.r2 ≠ [] → X.t1 ≠ X.t2
  ks : w.ownsRow B 9 1 X.kv K.length (K.map .string)
  vs : w.ownsRow B 3 1 X.vv V.length (V.map (.int .i64))
  fk : ∀ g, X.kv.ownBlock = some g → F g
  fv : ∀ g, X.vv.ownBlock = some g → F g
  k1 : ∀ v ∈ X.r1, ∀ g, v.ownBlock = some g → X.kv.ownBlock ≠ some g
  k2 : ∀ v ∈ X.r2, ∀ g, v.ownBlock = some g → X.kv.ownBlock ≠ some g
  lt : ∀ k, F k → B ≤ k ∧ k < w.heap.size
section
variable {w w' : World} {B B' p a : Nat} {F F' T : Nat → Prop} {seed : UInt64} {N : NM} {K : List ByteArray} {V : List Int} {X : RB}
theorem RefC.other (h : RefC w B p F N K V X) (hf : Fr T w w') (hd : ∀ k, F k → ¬ T k) : RefC w' B p F N K V X :=
  ⟨(hf.block p (h.lt p h.fp).2 (hd p h.fp)).trans h.blk, h.fp, h.row1.other hf hd, h.row2.other hf hd, h.tt, ow_fr h.ks hf (fun g hg => hd g (h.fk g hg)), ow_fr h.vs hf (fun g hg => hd g (h.fv g hg)), h.fk, h.fv, h.k1, h.k2, fun k hk => ⟨(h.lt k hk).1, Nat.lt_of_lt_of_le (h.lt k hk).2 hf.size⟩⟩
theorem RefC.quiet (h : RefC w B p F N K V X) (hf : Fr (fun _ => False) w w') : RefC w' B p F N K V X := h.other hf (fun _ _ h => h)
theorem RefC.base (h : RefC w B p F N K V X) (hb : B' ≤ B) : RefC w B' p F N K V X :=
  ⟨h.blk, h.fp, h.row1, h.row2, h.tt, ow_base h.ks hb, ow_base h.vs hb, h.fk, h.fv, h.k1, h.k2, fun k hk => ⟨Nat.le_trans hb (h.lt k hk).1, (h.lt k hk).2⟩⟩
theorem RefC.wide (h : RefC w B p F N K V X) (hF : ∀ k, F k → F' k) (hl : ∀ k, F' k → B ≤ k ∧ k < w.heap.size) : RefC w B p F' N K V X :=
  ⟨h.blk, hF p h.fp, h.row1.wide hF, h.row2.wide hF, h.tt, h.ks, h.vs, fun g hg => hF g (h.fk g hg), fun g hg => hF g (h.fv g hg), h.k1, h.k2, hl⟩
theorem RefC.cells (h : RefC w B p F N K V X) :
    w.cell? ⟨p, 0, none⟩ = some (.int .u64 (wd N.seed)) ∧ w.cell? ⟨p, 1, none⟩ = some (rowV X.t1 X.r1) ∧ w.cell? ⟨p, 2, none⟩ = some (rowV X.t2 X.r2) ∧ w.cell? ⟨p, 3, none⟩ = some (.int .i64 N.at_) ∧ w.cell? ⟨p, 4, none⟩ = some X.kv ∧ w.cell? ⟨p, 5, none⟩ = some X.vv :=
  ⟨cell_of_blk h.blk 0, cell_of_blk h.blk 1, cell_of_blk h.blk 2, cell_of_blk h.blk 3, cell_of_blk h.blk 4, cell_of_blk h.blk 5⟩
theorem RefC.free (h : RefC w B p F N K V X) (i : Nat) : w.frozen? ⟨p, i, none⟩ = false := free_of_blk h.blk i
theorem RefC.bp (h : RefC w B p F N K V X) : BT 119 w p := ⟨_, h.blk⟩
/-- a block of no row of its own is written -/
theorem RefC.field (h : RefC w B p F N K V X) {a' : Nat} {i : Nat} {u : Value} (hb : (w.setCell ⟨p, i, none⟩ u).heap[p]? = some (rdO N.seed a' X)) : RefC (w.setCell ⟨p, i, none⟩ u) B p F { N with at_ := a' } K V X := by
  have hf := Fr.setCell w ⟨p, i, none⟩ u
  have hs : ∀ e g, BT e w g → e ≠ 119 → ¬ g = p := fun e g hg hne eq => absurd eq (hg.ne h.bp hne)
  have hch : ∀ {t r cs}, RowsV w F t r cs → RowsV (w.setCell ⟨p, i, none⟩ u) F t r cs := fun hr =>
    ⟨hr.len, fun hne => ⟨(hf.block _ (hr.bt hne).lt (hs _ _ (hr.bt hne) (by decide))).trans (hr.blk hne).1, (hr.blk hne).2⟩, fun j c hc => by
      obtain ⟨v, h1, h2⟩ := hr.ch j c hc
      exact ⟨v, h1, h2.other hf (fun k _ e hk => hs _ _ hk (by decide) e)⟩⟩
  exact ⟨hb, h.fp, hch h.row1, hch h.row2, h.tt, ow_fr h.ks hf (fun g hg => hs _ _ (own_blk h.ks hg).2.2 (by decide)), ow_fr h.vs hf (fun g hg => hs _ _ (own_blk h.vs hg).2.2 (by decide)), h.fk, h.fv, h.k1, h.k2, fun k hk => ⟨(h.lt k hk).1, Nat.lt_of_lt_of_le (h.lt k hk).2 hf.size⟩⟩
theorem rdO_at {a : Nat} (h : w.heap[p]? = some (rdO seed a X)) (a' : Nat) : (w.setCell ⟨p, 3, none⟩ (.int .i64 (a' : Int))).heap[p]? = some (rdO seed a' X) := by
  rw [heap_setCell_same w p 3 _ _ _ h]
  rfl
/-- the number of buckets passed -/
theorem RefC.setAt (h : RefC w B p F N K V X) (a' : Nat) : RefC (w.setCell ⟨p, 3, none⟩ (.int .i64 (a' : Int))) B p F { N with at_ := a' } K V X := h.field (rdO_at h.blk a')
/-- a chain of the old table is laid anew -/
theorem RefC.set1 (h : RefC w B p F N K V X) (i : Nat) (c : List ByteArray) (v : Value) (hi : i < N.old.length) (hv : ChV w F v c) (hk : ∀ g, v.ownBlock = some g → X.kv.ownBlock ≠ some g) :
    RefC (w.setCell ⟨X.t1, i, none⟩ v) B p F { N with old := N.old.set i c } K V { X with r1 := X.r1.set i v } := by
  have hf := Fr.setCell w ⟨X.t1, i, none⟩ v
  have hr : X.r1 ≠ [] := by intro e; have := h.row1.len; rw [e] at this; simp at this; omega
  have hb := h.row1.bt hr
  have hs : ∀ e g, BT e w g → e ≠ 39 → ¬ g = X.t1 := fun e g hg hne eq => absurd eq (hg.ne hb hne)
  have e1 : rdO N.seed N.at_ { X with r1 := X.r1.set i v } = rdO N.seed N.at_ X := by
    unfold rdO
    simp only
    rw [rowV_len X.t1 (show (X.r1.set i v).length = X.r1.length by simp)]
  refine ⟨?_, h.fp, h.row1.set i c hi hv, ?_, fun _ h2 => h.tt hr h2, ow_fr h.ks hf (fun g hg => hs _ _ (own_blk h.ks hg).2.2 (by decide)), ow_fr h.vs hf (fun g hg => hs _ _ (own_blk h.vs hg).2.2 (by decide)), h.fk, h.fv, fun u hu => ?_, h.k2, fun k hk => ⟨(h.lt k hk).1, Nat.lt_of_lt_of_le (h.lt k hk).2 hf.size⟩⟩
  · rw [e1]
    exact (hf.block p (h.lt p h.fp).2 (hs _ _ h.bp (by decide))).trans h.blk
  · exact h.row2.but hf (fun h2 e => h.tt hr h2 e.symm) (fun u hu g hg => by
      obtain ⟨j, hj⟩ := List.mem_iff_getElem?.1 hu
      have hjl : j < N.young.length := by rw [← h.row2.len]; exact (List.getElem?_eq_some_iff.1 hj).1
      obtain ⟨u', h1, h2⟩ := h.row2.ch j _ (List.getElem?_eq_getElem hjl)
      rw [hj] at h1
      cases h1
      exact hs _ _ (h2.2 g hg).2 (by decide))
  · rcases List.mem_or_eq_of_mem_set hu with hu | rfl
    · exact h.k1 u hu
    · exact hk
/-- a chain of the young table is laid anew -/
theorem RefC.set2 (h : RefC w B p F N K V X) (i : Nat) (c : List ByteArray) (v : Value) (hi : i < N.young.length) (hv : ChV w F v c) (hk : ∀ g, v.ownBlock = some g → X.kv.ownBlock ≠ some g) :
    RefC (w.setCell ⟨X.t2, i, none⟩ v) B p F { N with young := N.young.set i c } K V { X with r2 := X.r2.set i v } := by
  have hf := Fr.setCell w ⟨X.t2, i, none⟩ v
  have hr : X.r2 ≠ [] := by intro e; have := h.row2.len; rw [e] at this; simp at this; omega
  have hb := h.row2.bt hr
  have hs : ∀ e g, BT e w g → e ≠ 39 → ¬ g = X.t2 := fun e g hg hne eq => absurd eq (hg.ne hb hne)
  have e1 : rdO N.seed N.at_ { X with r2 := X.r2.set i v } = rdO N.seed N.at_ X := by
    unfold rdO
    simp only
    rw [rowV_len X.t2 (show (X.r2.set i v).length = X.r2.length by simp)]
  refine ⟨?_, h.fp, ?_, h.row2.set i c hi hv, fun h1 _ => h.tt h1 hr, ow_fr h.ks hf (fun g hg => hs _ _ (own_blk h.ks hg).2.2 (by decide)), ow_fr h.vs hf (fun g hg => hs _ _ (own_blk h.vs hg).2.2 (by decide)), h.fk, h.fv, h.k1, fun u hu => ?_, fun k hk => ⟨(h.lt k hk).1, Nat.lt_of_lt_of_le (h.lt k hk).2 hf.size⟩⟩
  · rw [e1]
    exact (hf.block p (h.lt p h.fp).2 (hs _ _ h.bp (by decide))).trans h.blk
  · exact h.row1.but hf (fun h1 e => h.tt h1 hr e) (fun u hu g hg => by
      obtain ⟨j, hj⟩ := List.mem_iff_getElem?.1 hu
      have hjl : j < N.old.length := by rw [← h.row1.len]; exact (List.getElem?_eq_some_iff.1 hj).1
      obtain ⟨u', h1, h2⟩ := h.row1.ch j _ (List.getElem?_eq_getElem hjl)
      rw [hj] at h1
      cases h1
      exact hs _ _ (h2.2 g hg).2 (by decide))
  · rcases List.mem_or_eq_of_mem_set hu with hu | rfl
    · exact h.k2 u hu
    · exact hk
theorem RefC.rows1 (h : RefC w B p F N K V X) (hf : Fr (fun k => k = p) w w') : RowsV w' F X.t1 X.r1 N.old :=
  ⟨h.row1.len, fun hne => ⟨(hf.block _ (h.row1.bt hne).lt (fun e => (h.row1.bt hne).ne h.bp (by decide) e)).trans (h.row1.blk hne).1, (h.row1.blk hne).2⟩, fun j c hc => by
    obtain ⟨v, h1, h2⟩ := h.row1.ch j c hc
    exact ⟨v, h1, h2.other hf (fun k _ e hk => hk.ne h.bp (by decide) e)⟩⟩
theorem RefC.rows2 (h : RefC w B p F N K V X) (hf : Fr (fun k => k = p) w w') : RowsV w' F X.t2 X.r2 N.young :=
  ⟨h.row2.len, fun hne => ⟨(hf.block _ (h.row2.bt hne).lt (fun e => (h.row2.bt hne).ne h.bp (by decide) e)).trans (h.row2.blk hne).1, (h.row2.blk hne).2⟩, fun j c hc => by
    obtain ⟨v, h1, h2⟩ := h.row2.ch j c hc
    exact ⟨v, h1, h2.other hf (fun k _ e hk => hk.ne h.bp (by decide) e)⟩⟩
theorem RefC.not_p (h : RefC w B p F N K V X) {e : TypeId} {g : Nat} (hg : BT e w g) (hne : e ≠ 119) : ¬ g = p := fun eq => absurd eq (hg.ne h.bp hne)
/-- the young table becomes the old one -/
theorem RefC.done (h : RefC w B p F N K V X) : RefC (((w.setCell ⟨p, 1, none⟩ (rowV X.t2 X.r2)).setCell ⟨p, 2, none⟩ (.slice none 0 0)).setCell ⟨p, 3, none⟩ (.int .i64 0)) B p F { N with old := N.young, young := [], at_ := 0 } K V { X with t1 := X.t2, r1 := X.r2, r2 := [] } := by
  have hf : Fr (fun k => k = p) w (((w.setCell ⟨p, 1, none⟩ (rowV X.t2 X.r2)).setCell ⟨p, 2, none⟩ (.slice none 0 0)).setCell ⟨p, 3, none⟩ (.int .i64 0)) :=
    (((Fr.refl (fun k => k = p) w).thenSet _ _ (fun _ => rfl)).thenSet _ _ (fun _ => rfl)).thenSet _ _ (fun _ => rfl)
  refine ⟨?_, h.fp, h.rows2 hf, RowsV.nil, fun _ h2 => absurd rfl h2, ow_fr h.ks hf (fun g hg => h.not_p (own_blk h.ks hg).2.2 (by decide)), ow_fr h.vs hf (fun g hg => h.not_p (own_blk h.vs hg).2.2 (by decide)), h.fk, h.fv, h.k2, fun v hv => (by cases hv), fun k hk => ⟨(h.lt k hk).1, Nat.lt_of_lt_of_le (h.lt k hk).2 hf.size⟩⟩
  have h1 := heap_setCell_same w p 1 _ _ (rowV X.t2 X.r2) h.blk
  have h2 := heap_setCell_same _ p 2 _ _ (.slice none 0 0) h1
  have h3 := heap_setCell_same _ p 3 _ _ (.int .i64 0) h2
  rw [h3]
  rfl
end
/-- the document's dict of these names -/
structure RefD (w : World) (B p : Nat) (F : Nat → Prop) (N : NM) (L : Pl) (X : RB) : Prop where
  c : RefC w B p F N (L.map (·.1)) (L.map (·.2)) X
  fit : Fit N (L.map (·.1))
  ksz : ∀ x ∈ L, x.1.size ≤ maxLen
end Go.Proofs.Ytgomilodeaafdaa
namespace Go.Proofs.Ytgomilodeaafdaa
open Go.RowKit
theorem rdNew_any (seed : UInt64) (w : World) : Calls Try.prog 17 #[.int .u64 (wd seed)] w fun e w' =>
    e = .returned (.pointer (some ⟨w.heap.size, 0, none⟩)) ∧ w.alloc (rdO seed 0 ⟨0, [], 0, [], .slice none 0 0, .slice none 0 0⟩) = w' := by
  go_enter Try.func17, Try.ntmps17
  go_wp2
  go_ret
  exact ⟨rfl, rfl⟩
theorem fit_nil (seed : UInt64) : Fit ⟨seed, [], [], 0⟩ [] := ⟨⟨seed, 0, [], 0, [], 0, 0⟩, inv_new seed, rfl, List.Perm.refl _⟩
theorem rd_new (seed : UInt64) (w : World) : RefD (w.alloc (rdO seed 0 ⟨0, [], 0, [], .slice none 0 0, .slice none 0 0⟩)) w.heap.size w.heap.size (fun k => k = w.heap.size) ⟨seed, [], [], 0⟩ [] ⟨0, [], 0, [], .slice none 0 0, .slice none 0 0⟩ := by
  refine ⟨⟨alloc_new _ _, rfl, RowsV.nil, RowsV.nil, fun h => absurd rfl h, World.ownsRow_nil _ _ _ _, World.ownsRow_nil _ _ _ _, fun g h => (by cases h), fun g h => (by cases h), fun v h => (by cases h), fun v h => (by cases h), fun k hk => ?_⟩, fit_nil seed, fun x h => (by cases h)⟩
  subst hk
  exact ⟨Nat.le_refl _, by simp⟩
set_option maxHeartbeats 400000 in
theorem rdPlace_any (w : World) (p : Nat) (a : Option Addr) (n cap : Nat) (seed : UInt64) (key : ByteArray) (h : w.cell? ⟨p, 0, none⟩ = some (.int .u64 (wd seed))) (hn : 0 < n) (hn2 : n ≤ 4611686018427387904) (hs : key.size ≤ maxLen) :
    Calls Try.prog 136 #[.pointer (some ⟨p, 0, none⟩), .slice a n cap, .string key] w fun e w' => e = .returned (.int .i64 (slotOf seed n key : Nat)) ∧ w = w' := by
  obtain ⟨H, hH⟩ : ∃ H, hash seed key.data.toList = H := ⟨_, rfl⟩
  have HC := Lib.hid (refHash_any seed key w hs)
  rw [hH] at HC
  have hq : slotOf seed n key = H.toNat % n := by unfold slotOf; rw [hH]
  have hm : (wd H).tmod (n : Int) = ((H.toNat % n : Nat) : Int) := by
    show (((H.toNat : Nat) : Int)).tmod (n : Int) = _
    rw [← Int.ofNat_tmod]
  have hql := Nat.mod_lt H.toNat hn
  obtain ⟨q, hqq⟩ : ∃ q, H.toNat % n = q := ⟨_, rfl⟩
  rw [hqq] at hm hql hq
  rw [hq]
  have hu1 : IntKind.u64.wrap (n : Int) = (n : Int) := IntWalk.u64_in _ (by omega)
  have hu2 : IntKind.i64.wrap (q : Int) = (q : Int) := IntWalk.i64_in _ (by omega)
  have hnz : ((n : Int) == 0) = false := beq_eq_false_iff_ne.2 (by omega)
  have hn0 : ¬ n = 0 := by omega
  have hn1 : ¬ (n : Int) = 0 := by omega
  clear hq hqq hH
  go_enter Try.func136, Try.ntmps136
  go_wp2_with fail
  refine HC.out.mono ?_
  rintro e w' ⟨rfl, rfl⟩
  go_wp2_with fail
  go_ret
  exact ⟨rfl, rfl⟩
set_option maxHeartbeats 400000 in
theorem rdAhead_any (w : World) (v : Value) (l : List ByteArray) (key : ByteArray) (h : RdC w 1 v l.length (l.map .string)) (hl : l.length ≤ 4398046511104) :
    Calls Try.prog 137 #[.string key, v] w fun e w' => ∃ u, e = .returned u ∧ RowS w.heap.size w' u (key :: l) ∧ Fr (fun _ => False) w w' := by
  obtain ⟨a, c, rfl⟩ := rd_sliceN h
  obtain ⟨i0, hi, hz0, hz1, hz2⟩ := info_parts info_str
  have HL : Hid ((w.alloc (.cells #[.string key] 9)).ownsRow w.heap.size 9 1 (.slice (some ⟨w.heap.size, 0, none⟩) 1 1) 1 [.string key]) := World.ownsRow_lit w #[.string key] 1 (Nat.le_refl _) (by decide) rfl
  have HB : Hid (Below w.heap.size w (w.alloc (.cells #[.string key] 9))) := (Below.refl _ _).alloc (Nat.le_refl _) _
  have HR := Lib.hid (h.below HB.out)
  clear h
  go_enter Try.func137, Try.ntmps137
  go_wp2_with (at_builtin; refine wpl_append rfl (.tmp 8) (.tmp 9) 39 rfl w.heap.size 9 i0 (.string ⟨#[]⟩) 1 16 Try.underlying39 hi hz0 hz1 hz2 rfl (by decide) _ 1 _ rfl HL.out _ l.length _ rfl HR.out (one_strs _) (by unfold maxLen; omega) (by omega) HB.out.size ?_; intro v' w8 hown hgrow; have HO8 := Lib.hid hown; have HG8 := Lib.hid hgrow; clear hown hgrow)
  go_ret
  have hbe := HB.out.grown HG8.out HB.out.size (fun g hg => (own_blk HL.out hg).1)
  refine ⟨_, rfl, ?_, ⟨hbe.os, hbe.tape, hbe.output, hbe.size, fun k hk _ => hbe.block k hk⟩⟩
  have := rowS_app (S := [key]) HO8.out
  exact this
/-- where a key stands; -1: nowhere -/
def idxV (o : Option Nat) : Int := match o with
  | some i => i
  | none => -1
set_option maxHeartbeats 400000 in
theorem rdIndex_any (w : World) (p : Nat) (L : Pl) (kv : Value) (key : ByteArray) (hk : w.cell? ⟨p, 4, none⟩ = some kv) (hr : RdC w 1 kv L.length (L.map fun x => .string x.1)) :
    Calls Try.prog 135 #[.pointer (some ⟨p, 0, none⟩), .string key] w fun e w' => e = .returned (.int .i64 (idxV (fdG key L))) ∧ w = w' := by
  obtain ⟨a, c, rfl⟩ := rd_sliceN hr
  have hlm := hr.len
  unfold maxLen at hlm
  have HR := Lib.hid hr
  clear hr
  go_enter Try.func135, Try.ntmps135
  go_wp2_with fail
  go_loop [12] (fun i => ∃ k : Nat, k ≤ L.length ∧ i = .int .i64 k ∧ Hid (∀ j e, j < k → L[j]? = some e → e.1 ≠ key)) (fun i => L.length - (intOf i).toNat)
  case atStart => exact ⟨0, Nat.zero_le _, rfl, fun j e hj => absurd hj (Nat.not_lt_zero _)⟩
  case round =>
    obtain ⟨k, hk, rfl, HN⟩ := hrel
    by_cases hlt : k < L.length
    · obtain ⟨g, off, rfl, hcell⟩ := HR.out.at (by rw [List.length_map]; omega)
      obtain ⟨x, hx⟩ : ∃ x, L[k]? = some x := ⟨_, List.getElem?_eq_getElem hlt⟩
      have hc := hcell k (.string x.1) (by rw [List.getElem?_map, hx]; rfl)
      have HX := Lib.hid hx
      have b0 : (0 : Int) ≤ (k : Int) := by omega
      have b1 : (k : Int) < (L.length : Int) := by omega
      clear hcell hx
      by_cases he : x.1 = key
      · have hb : (x.1.toList == key.toList) = true := by rw [str_beq]; exact decide_eq_true he
        have HE := Lib.hid he
        clear he
        go_wp2_with fail
        go_ret
        have : fdG key L = some k := fdG_of (x := x.2) (by rw [HX.out, ← HE.out]) HN.out
        exact ⟨by rw [this]; rfl, rfl⟩
      · have hb : (x.1.toList == key.toList) = false := by rw [str_beq]; exact decide_eq_false he
        have HE := Lib.hid he
        clear he
        go_wp2_with fail
        go_round
        case rel =>
          refine ⟨k + 1, by omega, by go_num, fun j e hj hje => ?_⟩
          by_cases hjk : j = k
          · subst hjk
            rw [HX.out] at hje
            cases hje
            exact HE.out
          · exact HN.out j e (by omega) hje
        case measure => simp [intOf]; omega
    · obtain rfl : k = L.length := by omega
      go_wp2_with fail
      go_ret
      have : fdG key L = none := fdG_no (fun e he => by
        obtain ⟨j, hj, rfl⟩ := List.getElem_of_mem he
        exact HN.out j _ hj (List.getElem?_eq_getElem hj))
      exact ⟨by rw [this]; rfl, rfl⟩
end Go.Proofs.Ytgomilodeaafdaa
namespace Go.Proofs.Ytgomilodeaafdaa
open Go.RowKit
/-- what a call leaves -/
def RdTo (w : World) (B p : Nat) (F : Nat → Prop) (N' : NM) (L' : Pl) (w' : World) : Prop := ∃ X', RefD w' B p (Grew F w w') N' L' X' ∧ Fr F w w'
section
variable {w w' w2 : World} {B p : Nat} {F : Nat → Prop} {N N' : NM} {L L' : Pl} {K : List ByteArray} {V : List Int} {X X' : RB}
theorem RefC.grew (h : RefC w' B p F N K V X) (hB : B ≤ w.heap.size) (hs : w.heap.size ≤ w'.heap.size) : RefC w' B p (Grew F w w') N K V X :=
  h.wide (fun _ hk => .inl hk) (fun k hk => hk.elim (h.lt k) (fun hk => ⟨by omega, hk.2⟩))
theorem RefD.quiet (h : RefD w B p F N L X) (hf : Fr (fun _ => False) w w') : RefD w' B p F N L X := ⟨h.c.quiet hf, h.fit, h.ksz⟩
theorem RefD.other {T : Nat → Prop} (h : RefD w B p F N L X) (hf : Fr T w w') (hd : ∀ k, F k → ¬ T k) : RefD w' B p F N L X := ⟨h.c.other hf hd, h.fit, h.ksz⟩
theorem RefD.base {B' : Nat} (h : RefD w B p F N L X) (hb : B' ≤ B) : RefD w B' p F N L X := ⟨h.c.base hb, h.fit, h.ksz⟩
theorem RefD.wide {F' : Nat → Prop} (h : RefD w B p F N L X) (hF : ∀ k, F k → F' k) (hl : ∀ k, F' k → B ≤ k ∧ k < w.heap.size) : RefD w B p F' N L X := ⟨h.c.wide hF hl, h.fit, h.ksz⟩
theorem RefD.still (h : RefD w B p F N L X) (hB : B ≤ w.heap.size) (hf : Fr (fun _ => False) w w') : RdTo w B p F N L w' :=
  ⟨X, (h.quiet hf).wide (fun _ hk => .inl hk) (fun k hk => hk.elim (fun hk => ⟨(h.c.lt k hk).1, Nat.lt_of_lt_of_le (h.c.lt k hk).2 hf.size⟩) (fun hk => ⟨by omega, hk.2⟩)), hf.mono (fun _ hk _ => hk.elim)⟩
theorem rowsV_ne {t : Nat} {r : List Value} {cs : List (List ByteArray)} (h : RowsV w F t r cs) (hne : cs ≠ []) : r ≠ [] := fun e => by
  have := h.len
  rw [e] at this
  exact hne (List.length_eq_zero_iff.1 this.symm)
end
theorem rdStep_still (w : World) (B p : Nat) (F : Nat → Prop) (N : NM) (K : List ByteArray) (V : List Int) (X : RB) (h : RefC w B p F N K V X) (hy : N.young = []) :
    Calls Try.prog 134 #[.pointer (some ⟨p, 0, none⟩)] w fun e w' => e = .returned (.tuple #[]) ∧ w = w' := by
  obtain ⟨c0, c1, c2, c3, c4, c5⟩ := h.cells
  have hr : X.r2 = [] := by have := h.row2.len; rw [hy] at this; exact List.length_eq_zero_iff.1 this
  rw [hr, rowV_nil] at c2
  clear c0 c1 c3 c4 c5 h hr hy
  go_enter Try.func134, Try.ntmps134
  go_wp2
  refine bodyPost_ret (results_none rfl _ _ _) rfl ?_
  exact ⟨rfl, rfl⟩
theorem passN_le (old : List (List ByteArray)) : ∀ k a, a ≤ old.length → passN old k a ≤ old.length := by
  intro k
  induction k with
  | zero => intro a h; exact h
  | succ k ih =>
    intro a h
    unfold passN
    split
    · rename_i hc
      exact ih _ (by have := (List.getElem?_eq_some_iff.1 hc).1; omega)
    · exact h
/-- what stands while the buckets are moved -/
structure Mv (w wr : World) (B p : Nat) (F : Nat → Prop) (N : NM) (L : Pl) (X : RB) (Y : List (List ByteArray)) : Prop where
  c : ∃ Xj : RB, RefC wr B p (Grew F w wr) { N with young := Y } (L.map (·.1)) (L.map (·.2)) Xj ∧ Xj.r1 = X.r1 ∧ Xj.t1 = X.t1 ∧ Xj.t2 = X.t2 ∧ Xj.r2.length = X.r2.length
  f : Fr F w wr
theorem Mv.start {w wc w' : World} {B p : Nat} {F : Nat → Prop} {N : NM} {L : Pl} {X : RB} (hB : B ≤ w.heap.size) (hc : RefC wc B p F N (L.map (·.1)) (L.map (·.2)) X) (hf : Fr F w wc) (hq : Fr (fun _ => False) wc w') : Mv w w' B p F N L X N.young :=
  ⟨⟨X, (hc.quiet hq).grew hB (Nat.le_trans hf.size hq.size), rfl, rfl, rfl, rfl⟩, hf.wide hq (fun _ h => h.elim)⟩
theorem Mv.hang {w wr w5 : World} {B p : Nat} {F : Nat → Prop} {N : NM} {L : Pl} {X Xj : RB} {Y : List (List ByteArray)} {i : Nat} {k : ByteArray} {c : List ByteArray} {u : Value} (hB : B ≤ w.heap.size)
    (h : RefC wr B p (Grew F w wr) { N with young := Y } (L.map (·.1)) (L.map (·.2)) Xj) (hf : Fr F w wr) (h1 : Xj.r1 = X.r1) (h2 : Xj.t1 = X.t1) (h3 : Xj.t2 = X.t2) (h4 : Xj.r2.length = X.r2.length) (hi : slotOf N.seed Y.length k = i) (hc : Y[i]? = some c)
    (hq : Fr (fun _ => False) wr w5) (hu : RowS wr.heap.size w5 u (k :: c)) : Mv w (w5.setCell ⟨X.t2, i, none⟩ u) B p F N L X (hangN N.seed Y k) := by
  have hs := hf.size
  have hs2 := hq.size
  have hil := (List.getElem?_eq_some_iff.1 hc).1
  have hG : ∀ g, Grew F w wr g → Grew F w w5 g := fun g hg => hg.imp id (fun hg => ⟨hg.1, by omega⟩)
  have h5 : RefC w5 B p (Grew F w w5) { N with young := Y } (L.map (·.1)) (L.map (·.2)) Xj := (h.quiet hq).wide hG (fun g hg => by
    rcases hg with hg | hg
    · have := h.lt g (.inl hg)
      exact ⟨this.1, by omega⟩
    · exact ⟨by omega, hg.2⟩)
  have hch : ChV w5 (Grew F w w5) u (k :: c) := ⟨RdC.of_owns hu, fun g hg => by
    obtain ⟨q1, q2, q3⟩ := own_blk hu hg
    exact ⟨.inr ⟨by omega, q2⟩, q3⟩⟩
  have hk : ∀ g, u.ownBlock = some g → Xj.kv.ownBlock ≠ some g := fun g hg e => by
    have q1 := (own_blk hu hg).1
    have q2 := (own_blk h.ks e).2.1
    omega
  have h6 := h5.set2 i (k :: c) u hil hch hk
  rw [h3] at h6
  have he : hangN N.seed Y k = Y.set i (k :: c) := by rw [hangN_eq N.seed Y k c (by rw [hi]; exact hc), hi]
  have hsz : (w5.setCell ⟨X.t2, i, none⟩ u).heap.size = w5.heap.size := by simp
  have hne : Xj.r2 ≠ [] := by intro e; have := h5.row2.len; rw [e] at this; simp at this; have : Y.length = 0 := this.symm; omega
  have ht2 := (h.row2.blk hne).2
  rw [h3] at ht2
  refine ⟨⟨{ Xj with t2 := X.t2, r2 := Xj.r2.set i u }, ?_, h1, h2, rfl, by simp [h4]⟩, ?_⟩
  · rw [he]
    exact h6.wide (fun g (hg : Grew F w w5 g) => show Grew F w (w5.setCell ⟨X.t2, i, none⟩ u) g from hg.imp id (fun q => ⟨q.1, by rw [hsz]; exact q.2⟩)) (fun g hg => h6.lt g (show Grew F w w5 g from hg.imp id (fun q => ⟨q.1, by rw [← hsz]; exact q.2⟩)))
  · refine (hf.wide hq (fun _ h => h.elim)).wide (Fr.setCell w5 ⟨X.t2, i, none⟩ u) (fun g hg => ?_)
    rw [show g = X.t2 from hg]
    exact ht2.imp id (fun hg => hg.1)
theorem RefC.done' {w : World} {B p : Nat} {F : Nat → Prop} {N : NM} {L : Pl} {X : RB} {v : Value} (h : RefC w B p F N (L.map (·.1)) (L.map (·.2)) X) (hv : rowV X.t2 X.r2 = v) : RefC (((w.setCell ⟨p, 1, none⟩ v).setCell ⟨p, 2, none⟩ (.slice none 0 0)).setCell ⟨p, 3, none⟩ (.int .i64 0)) B p F { N with old := N.young, young := [], at_ := 0 } (L.map (·.1)) (L.map (·.2)) { X with t1 := X.t2, r1 := X.r2, r2 := [] } := by
  subst hv; exact h.done
theorem RdTo.mk {w w' : World} {B p : Nat} {F : Nat → Prop} {N N' : NM} {L : Pl} {X X' : RB} (h : RefD w B p F N L X) (hB : B ≤ w.heap.size) (hc : RefC w' B p F N' (L.map (·.1)) (L.map (·.2)) X') (hf : Fr F w w') (hn : Fit N' (L.map (·.1))) : RdTo w B p F N' L w' :=
  ⟨X', ⟨hc.grew hB hf.size, hn, h.ksz⟩, hf⟩
theorem RdTo.mkG {w w' : World} {B p : Nat} {F : Nat → Prop} {N N' : NM} {L : Pl} {X X' : RB} (h : RefD w B p F N L X) (hc : RefC w' B p (Grew F w w') N' (L.map (·.1)) (L.map (·.2)) X') (hf : Fr F w w') (hn : Fit N' (L.map (·.1))) : RdTo w B p F N' L w' :=
  ⟨X', ⟨hc, hn, h.ksz⟩, hf⟩
theorem RdTo.mkW {w wo w' : World} {B p : Nat} {F : Nat → Prop} {N N' : NM} {L : Pl} {X X' : RB} (h : RefD w B p F N L X) (hB : B ≤ w.heap.size) (hc : RefC w' B p (Grew F w wo) N' (L.map (·.1)) (L.map (·.2)) X') (hs : wo.heap.size ≤ w'.heap.size) (hf : Fr F w w') (hn : Fit N' (L.map (·.1))) : RdTo w B p F N' L w' :=
  RdTo.mkG h (hc.wide (fun _ hk => hk.imp id (fun q => ⟨q.1, Nat.lt_of_lt_of_le q.2 hs⟩)) (fun k hk => hk.elim (fun q => hc.lt k (.inl q)) (fun q => ⟨Nat.le_trans hB q.1, q.2⟩))) hf hn
theorem rd_text {w : World} {a : Option Addr} {n cap : Nat} {l : List ByteArray} (h : RdC w 1 (.slice a n cap) n (l.map .string)) (j : Nat) (hj : j < l.length) : ∃ g off, a = some ⟨g, off, none⟩ ∧ w.cell? ⟨g, off + j, none⟩ = some (.string l[j]) := by
  obtain ⟨g, off, rfl, hc⟩ := h.at (by rw [List.length_map]; omega)
  exact ⟨g, off, rfl, hc j _ (by rw [List.getElem?_map, List.getElem?_eq_getElem hj]; rfl)⟩
set_option maxRecDepth 100000 in
set_option maxHeartbeats 4000000 in
theorem rdStep_moving (w : World) (B p : Nat) (F : Nat → Prop) (N : NM) (L : Pl) (X : RB) (h : RefD w B p F N L X) (hB : B ≤ w.heap.size) (hy : N.young ≠ []) (hol : N.old.length ≤ 4398046511104) (hyl : N.young.length ≤ 4398046511104) (hL : L.length ≤ 2199023255552) :
    Calls Try.prog 134 #[.pointer (some ⟨p, 0, none⟩)] w fun e w' => e = .returned (.tuple #[]) ∧ RdTo w B p F (stepN N) L w' := by
  have hm := h.fit.mov hy
  have hone : N.old ≠ [] := by intro e; rw [e] at hm; simp at hm
  have hr1 := rowsV_ne h.c.row1 hone
  have hr2 := rowsV_ne h.c.row2 hy
  have hl1 : X.r1.length = N.old.length := h.c.row1.len
  have hl2 : X.r2.length = N.young.length := h.c.row2.len
  have hst : stepN N = endN (moveN N (passN N.old 10 N.at_)) := by unfold stepN; rw [if_neg hy]
  have hpl := passN_le N.old 10 N.at_ (by omega)
  have hFp := h.c.fp
  have H := Lib.hid h
  have HST := Lib.hid hst
  have HR1 := Lib.hid (rowV_of (t := X.t1) hr1)
  have HR2 := Lib.hid (rowV_of (t := X.t2) hr2)
  have HL1 := Lib.hid hl1
  have HL2 := Lib.hid hl2
  have HY := Lib.hid hy
  have c2 := h.c.cells.2.2.1
  rw [HR2.out] at c2
  have hyp : ((X.r2.length : Int) == 0) = false := beq_eq_false_iff_ne.2 (by have := List.length_pos_iff.2 hr2; omega)
  have HFP := Lib.hid hFp
  clear h hst hl1 hl2 hone hr1 hy hFp
  go_enter Try.func134, Try.ntmps134
  go_upto_block 0 with (fail)
  go_cut [2] from 12 (fun s2 wc => ∃ a : Nat, passN N.old 10 N.at_ = a ∧ Hid (RefC wc B p F { N with at_ := a } (L.map (·.1)) (L.map (·.2)) X) ∧ Hid (Fr F w wc))
  case first =>
    go_wp2
    go_loopw [2] (fun kk wr => ∃ k a : Nat, kk = .int .i64 k ∧ k ≤ 10 ∧ a ≤ N.old.length ∧ Hid (passN N.old k a = passN N.old 10 N.at_) ∧ Hid (RefC wr B p F { N with at_ := a } (L.map (·.1)) (L.map (·.2)) X) ∧ Hid (Fr F w wr)) (fun kk _ => (intOf kk).toNat)
    case atStart => exact ⟨10, N.at_, rfl, by omega, by omega, rfl, H.out.c, Fr.refl _ _⟩
    case round =>
      obtain ⟨k, a, rfl, hk, ha, HP, HC, HF⟩ := hrel
      obtain ⟨wo, rfl⟩ : ∃ wo, wo = wr := ⟨_, rfl⟩
      have f1 : wo.cell? ⟨p, 1, none⟩ = some (rowV X.t1 X.r1) := HC.out.cells.2.1
      have f3 : wo.cell? ⟨p, 3, none⟩ = some (.int .i64 (a : Int)) := HC.out.cells.2.2.2.1
      have z3 := HC.out.free 3
      rw [HR1.out, HL1.out] at f1
      clear c2
      by_cases hk0 : 0 < k
      case neg =>
        obtain rfl : k = 0 := by omega
        have g1 : decide ((0 : Int) < ((0 : Nat) : Int)) = false := rfl
        go_wp2
        go_quiet (fail)
        go_wp2
        go_meet
        case rel => exact ⟨a, HP.out.symm, HC.out.quiet (Fr.drewN _ _ _), HF.out.thenDrewN _⟩
      have g1 : decide ((0 : Int) < (k : Int)) = true := decide_eq_true (by omega)
      have g1' : decide (0 < k) = true := decide_eq_true hk0
      by_cases hal : a < N.old.length
      case neg =>
        have g2 : decide (a < N.old.length) = false := decide_eq_false hal
        go_wp2
        go_quiet (fail)
        go_wp2
        go_meet
        case rel =>
          refine ⟨a, ?_, HC.out.quiet (Fr.drewN _ _ _), HF.out.thenDrewN _⟩
          rw [← HP.out]
          obtain ⟨j, hj⟩ : ∃ j, k = j + 1 := ⟨k - 1, by omega⟩
          rw [hj]
          unfold passN
          rw [List.getElem?_eq_none (by omega)]
      have g2 : decide (a < N.old.length) = true := decide_eq_true hal
      obtain ⟨c, hc⟩ : ∃ c, N.old[a]? = some c := ⟨_, List.getElem?_eq_getElem hal⟩
      obtain ⟨v, -, -, hcv, -, hch⟩ := HC.out.row1.at a c hc
      obtain ⟨va, vc, rfl⟩ := hch.slice
      have b0 : (0 : Int) ≤ (a : Int) := by omega
      have b1 : (a : Int) < (N.old.length : Int) := by omega
      have e1 : IntKind.i64.wrap ((k : Int) - 1) = ((k - 1 : Nat) : Int) := by rw [IntWalk.i64_in _ (by omega)]; omega
      have e2 : IntKind.i64.wrap ((a : Int) + 1) = ((a + 1 : Nat) : Int) := by rw [IntWalk.i64_in _ (by omega)]; omega
      have HCC := Lib.hid hc
      clear hc hch
      by_cases hcl : c.length = 0
      · have g3 : ((c.length : Int) == 0) = true := by rw [hcl]; rfl
        have HCL := Lib.hid (List.length_eq_zero_iff.1 hcl)
        clear hcl
        go_wp2
        go_quiet (fail)
        go_wp2
        go_roundw
        case rel =>
          refine ⟨k - 1, a + 1, rfl, by omega, by omega, ?_, ?_, ?_⟩
          · show _ = _
            rw [← HP.out]
            conv => rhs; rw [show k = (k - 1) + 1 by omega]; unfold passN
            rw [HCC.out, HCL.out]
          · exact (HC.out.quiet (Fr.drewN _ _ _)).setAt (a + 1)
          · exact (HF.out.thenDrewN _).thenSet _ _ (fun _ => HFP.out)
        case measure => simp [intOf]; omega
      · have g3 : ((c.length : Int) == 0) = false := beq_eq_false_iff_ne.2 (by omega)
        have HCL := Lib.hid hcl
        clear hcl
        go_wp2
        go_quiet (fail)
        go_wp2
        go_meet
        case rel =>
          refine ⟨a, ?_, HC.out.quiet (Fr.drewN _ _ _), HF.out.thenDrewN _⟩
          rw [← HP.out]
          obtain ⟨j, hj⟩ : ∃ j, k = j + 1 := ⟨k - 1, by omega⟩
          rw [hj]
          unfold passN
          rw [HCC.out]
          cases c with
          | nil => exact absurd rfl HCL.out
          | cons x c => rfl
  case rest =>
    obtain ⟨a, hpa, HC, HF⟩ := hcut
    have hpl2 : a ≤ N.old.length := by rw [← hpa]; exact hpl
    rw [hpa] at HST
    have f1 : wc.cell? ⟨p, 1, none⟩ = some (rowV X.t1 X.r1) := HC.out.cells.2.1
    have f2 : wc.cell? ⟨p, 2, none⟩ = some (rowV X.t2 X.r2) := HC.out.cells.2.2.1
    have f3 : wc.cell? ⟨p, 3, none⟩ = some (.int .i64 (a : Int)) := HC.out.cells.2.2.2.1
    have z1 := HC.out.free 1
    have z2 := HC.out.free 2
    have z3 := HC.out.free 3
    rw [HR1.out, HL1.out] at f1
    rw [HR2.out] at f2
    clear hpa hpl c2
    by_cases hal : a < N.old.length
    case neg =>
      obtain rfl : a = N.old.length := by omega
      have g1 : decide (N.old.length < N.old.length) = false := decide_eq_false (by omega)
      have HE : Hid (stepN N = { N with old := N.young, young := [], at_ := 0 }) := by
        show _ = _
        rw [HST.out]
        unfold moveN endN
        rw [List.getElem?_eq_none (Nat.le_refl _)]
        simp
      clear hal
      go_upto_region 5 with (fail)
      go_quiet (fail)
      go_upto_region 14 with (fail)
      go_quiet (fail)
      go_wp2
      go_end0
      refine ⟨rfl, ?_⟩
      rw [HE.out]
      exact RdTo.mk H.out hB ((HC.out.quiet (Fr.drewN _ wc _)).done' HR2.out) ((((HF.out.thenDrewN _).thenSet _ _ (fun _ => HFP.out)).thenSet _ _ (fun _ => HFP.out)).thenSet _ _ (fun _ => HFP.out)) (HE.out ▸ H.out.fit.step)
    have g1 : decide (a < N.old.length) = true := decide_eq_true hal
    have g5 : ((a : Int) == (N.old.length : Int)) = false := beq_eq_false_iff_ne.2 (by omega)
    obtain ⟨c, hc⟩ : ∃ c, N.old[a]? = some c := ⟨_, List.getElem?_eq_getElem hal⟩
    obtain ⟨v, hv1, -, hcv, hzv, hch⟩ := HC.out.row1.at a c hc
    obtain ⟨va, vc, rfl⟩ := hch.slice
    have HV1 := Lib.hid hv1
    clear hv1
    have b0 : (0 : Int) ≤ (a : Int) := by omega
    have b1 : (a : Int) < (N.old.length : Int) := by omega
    have e2 : IntKind.i64.wrap ((a : Int) + 1) = ((a + 1 : Nat) : Int) := by rw [IntWalk.i64_in _ (by omega)]; omega
    have HCC := Lib.hid hc
    have hcK := H.out.fit.len_old (List.mem_of_getElem? hc)
    rw [List.length_map] at hcK
    clear hc hch
    by_cases hcl : c = []
    · subst hcl
      have g2 : decide ((0 : Int) < (([] : List ByteArray).length : Int)) = false := rfl
      have g3 : decide (0 < ([] : List ByteArray).length) = false := rfl
      have HE : Hid (stepN N = { N with at_ := a }) := by
        show _ = _
        rw [HST.out]
        unfold moveN endN
        rw [HCC.out]
        simp; omega
      go_upto_region 5 with (fail)
      go_quiet (fail)
      go_upto_region 14 with (fail)
      go_quiet (fail)
      go_wp2
      go_end0
      refine ⟨rfl, ?_⟩
      rw [HE.out]
      exact RdTo.mk H.out hB (HC.out.quiet ((Fr.drewN _ _ _).trans (Fr.drewN _ _ _) fun _ h _ => h)) ((HF.out.thenDrewN _).thenDrewN _) (HE.out ▸ H.out.fit.step)
    · have hcp : 0 < c.length := List.length_pos_iff.2 hcl
      have g2 : decide ((0 : Int) < (c.length : Int)) = true := decide_eq_true (by omega)
      have g3 : decide (0 < c.length) = true := decide_eq_true hcp
      have HCL := Lib.hid hcl
      clear hcl
      go_upto_region 5 with (fail)
      go_quiet (fail)
      go_upto_region 6 with (fail)
      go_quiet (fail)
      go_wp2
      clear f1 f2 f3 z1 z2 z3 hcv hzv
      go_loopw [84] (fun i wr => ∃ j : Nat, i = .int .i64 j ∧ j ≤ c.length ∧ Hid (Mv w wr B p F { N with at_ := a } L X ((c.take j).foldl (hangN N.seed) N.young))) (fun i _ => c.length - (intOf i).toNat)
      case atStart => exact ⟨0, rfl, by omega, Mv.start hB HC.out HF.out ((Fr.drewN _ _ _).trans (Fr.drewN _ _ _) fun _ h _ => h)⟩
      case round =>
        obtain ⟨j, rfl, hj, HM⟩ := hrel
        obtain ⟨wo, rfl⟩ : ∃ wo, wo = wr := ⟨_, rfl⟩
        obtain ⟨⟨Xj, hcj, x1, x2, x3, x4⟩, hfj⟩ := HM.out
        clear HC HF
        have HCJ := Lib.hid hcj
        have HFJ := Lib.hid hfj
        have HX : Hid (Xj.r1 = X.r1 ∧ Xj.t1 = X.t1 ∧ Xj.t2 = X.t2 ∧ Xj.r2.length = X.r2.length) := ⟨x1, x2, x3, x4⟩
        clear hcj hfj x1 x2 x3 x4
        obtain ⟨v', q1, -, q2, q3, q4⟩ := HCJ.out.row1.at a c HCC.out
        rw [HX.out.1, HV1.out] at q1
        cases q1
        by_cases hlt : j < c.length
        · obtain ⟨g, off, rfl, hck⟩ := rd_text q4.1 j hlt
          obtain ⟨k, hk⟩ : ∃ k, c[j] = k := ⟨_, rfl⟩
          rw [hk] at hck
          have hks : k.size ≤ maxLen := by
            have hm2 := H.out.fit.key_old (List.mem_of_getElem? HCC.out) (hk ▸ List.getElem_mem hlt)
            obtain ⟨x, hx, rfl⟩ := List.mem_map.1 hm2
            exact H.out.ksz x hx
          have htk : (c.take (j + 1)).foldl (hangN N.seed) N.young = hangN N.seed ((c.take j).foldl (hangN N.seed) N.young) k := by
            rw [List.take_succ_eq_append_getElem hlt, hk, List.foldl_append, List.foldl_cons, List.foldl_nil]
          have HTK := Lib.hid htk
          obtain ⟨Y, hY⟩ : ∃ Y, (c.take j).foldl (hangN N.seed) N.young = Y := ⟨_, rfl⟩
          have hYl : Y.length = X.r2.length := by rw [← hY, foldlN_length, HL2.out]
          have hYf : Y.flatten.length ≤ 4398046511104 := by
            rw [← hY, foldl_flat _ _ _ HY.out, List.length_take]
            have h1 := H.out.fit.count
            rw [List.length_map] at h1
            omega
          rw [hY] at HCJ HTK
          have hxp : 0 < X.r2.length := List.length_pos_iff.2 hr2
          have hil := slotOf_lt N.seed X.r2.length k hxp
          obtain ⟨i, hi⟩ : ∃ i, slotOf N.seed X.r2.length k = i := ⟨_, rfl⟩
          rw [hi] at hil
          obtain ⟨cc, hcc⟩ : ∃ cc, Y[i]? = some cc := ⟨_, List.getElem?_eq_getElem (by omega)⟩
          obtain ⟨v2, -, hx2, hcv2, hzv2, hch2⟩ := HCJ.out.row2.at i cc hcc
          obtain ⟨a2, c2, rfl⟩ := hch2.slice
          have hccl : cc.length ≤ 4398046511104 := Nat.le_trans (len_flat (List.mem_of_getElem? hcc)) hYf
          have hblk2 := (HCJ.out.row2.blk hx2).1
          rw [HX.out.2.2.1] at hcv2 hzv2 hblk2
          have f0 : wo.cell? ⟨p, 0, none⟩ = some (.int .u64 (wd N.seed)) := HCJ.out.cells.1
          have f2d : wo.cell? ⟨p, 2, none⟩ = some (.slice (some ⟨X.t2, 0, none⟩) X.r2.length X.r2.length) := by
            have h1 := HCJ.out.cells.2.2.1
            rw [rowV_of hx2, HX.out.2.2.1, HX.out.2.2.2] at h1
            exact h1
          have hnp : ¬ p = X.t2 := by
            have h1 := HCJ.out.not_p (HCJ.out.row2.bt hx2) (by decide)
            rw [HX.out.2.2.1] at h1
            exact fun e => h1 e.symm
          have HPL := Lib.hid (rdPlace_any wo p (some ⟨X.t2, 0, none⟩) X.r2.length X.r2.length N.seed k f0 hxp (by have := HL2.out; omega) hks)
          rw [hi] at HPL
          have HAH : Hid (∀ W, Fr (fun _ => False) wo W → Calls Try.prog 137 #[.string k, .slice a2 cc.length c2] W fun e w' => ∃ u, e = .returned u ∧ RowS W.heap.size w' u (k :: cc) ∧ Fr (fun _ => False) W w') :=
            fun W hf => rdAhead_any W _ cc k (hch2.1.fr hf (fun _ _ h => h)) hccl
          have HZ5 : Hid (∀ w5, Fr (fun _ => False) wo.drew w5 → w5.frozen? ⟨X.t2, i, none⟩ = false ∧ w5.cell? ⟨X.t2, i, none⟩ = some (.slice a2 cc.length c2) ∧ w5.cell? ⟨p, 2, none⟩ = some (.slice (some ⟨X.t2, 0, none⟩) X.r2.length X.r2.length) ∧ ∀ u, (w5.setCell ⟨X.t2, i, none⟩ u).cell? ⟨p, 2, none⟩ = some (.slice (some ⟨X.t2, 0, none⟩) X.r2.length X.r2.length)) := fun w5 hf => by
            have hf2 := (Fr.drew (fun _ => False) wo).trans hf (fun _ h _ => h)
            have hb5 := (hf2.block X.t2 (Array.getElem?_eq_some_iff.1 hblk2).1 (fun h => h)).trans hblk2
            exact ⟨free_of_blk hb5 i, hf2.cell hcv2 (fun h => h), hf2.cell f2d (fun h => h), fun u => (Fr.setCell w5 ⟨X.t2, i, none⟩ u).cell (hf2.cell f2d (fun h => h)) hnp⟩
          have hq0 : Fr (fun _ => False) wo wo.drew := Fr.drew _ _
          have hMv : ∀ w5 u, Fr (fun _ => False) wo.drew w5 → RowS wo.drew.heap.size w5 u (k :: cc) → Mv w (w5.setCell ⟨X.t2, i, none⟩ u) B p F { N with at_ := a } L X ((c.take (j + 1)).foldl (hangN N.seed) N.young) := fun w5 u h1 h2 => by
            rw [HTK.out]
            exact Mv.hang hB HCJ.out HFJ.out HX.out.1 HX.out.2.1 HX.out.2.2.1 HX.out.2.2.2 (by rw [hYl]; exact hi) hcc (hq0.trans h1 (fun _ h _ => h)) h2
          have HMV := Lib.hid hMv
          have b2 : (0 : Int) ≤ (j : Int) := by omega
          have b3 : (j : Int) < (c.length : Int) := by omega
          have b4 : (0 : Int) ≤ (i : Int) := by omega
          have b5 : (i : Int) < (X.r2.length : Int) := by omega
          have hbound : c.length ≤ 2199023255552 := by omega
          clear q2 q3 q4 hk hks htk hY hYl hYf hi hcc hch2 hccl hblk2 hx2 hMv HM
          go_wp2_with fail
          refine HPL.out.mono ?_
          rintro e w' ⟨rfl, rfl⟩
          go_upto_region 10 with (fail)
          refine wp_region_held_drew (S := (fun w' => w'.cell? ⟨p, 2, none⟩ = some (.slice (some ⟨X.t2, 0, none⟩) X.r2.length X.r2.length))) (by kernel_rfl) ?_ (fun hHeld => ?_)
          · exact f2d
          refine takeH (i := 0) (d := 95) (v := ?va0) rfl (by kernel_rfl) (by kernel_rfl) (by kernel_rfl) (by kernel_rfl) (fun _ _ _ h => h) (Or.inl ⟨by kernel_rfl, ?hya0⟩) hHeld ?resta0
          case hya0 =>
            intro w hSw
            try dsimp only at hSw
            first | (go_simp; done) | (go_simp; with_reducible rfl)
          try simp only [Act.put, List.setIfInBounds_toArray, List.set_cons_zero, List.set_cons_succ]
          refine takeH (i := 1) (d := 96) (v := ?va1) rfl (by kernel_rfl) (by kernel_rfl) (by kernel_rfl) (by kernel_rfl) (fun _ _ _ h => h) (Or.inl ⟨by kernel_rfl, ?hya1⟩) hHeld ?resta1
          case hya1 =>
            intro w hSw
            try dsimp only at hSw
            first | (go_simp; done) | (go_simp; with_reducible rfl)
          try simp only [Act.put, List.setIfInBounds_toArray, List.set_cons_zero, List.set_cons_succ]
          refine takeH (i := 2) (d := 97) (v := ?va2) rfl (by kernel_rfl) (by kernel_rfl) (by kernel_rfl) (by kernel_rfl) (fun _ _ _ h => h) (Or.inl ⟨by kernel_rfl, ?hya2⟩) hHeld ?resta2
          case hya2 =>
            intro w hSw
            try dsimp only at hSw
            first | (go_simp; done) | (go_simp; with_reducible rfl)
          try simp only [Act.put, List.setIfInBounds_toArray, List.set_cons_zero, List.set_cons_succ]
          refine takeH (i := 3) (d := 98) (v := ?va3) rfl (by kernel_rfl) (by kernel_rfl) (by kernel_rfl) (by kernel_rfl) (fun _ _ _ h => h) (Or.inl ⟨by kernel_rfl, ?hya3⟩) hHeld ?resta3
          case hya3 =>
            intro w hSw
            try dsimp only at hSw
            first | (go_simp; done) | (go_simp; with_reducible rfl)
          try simp only [Act.put, List.setIfInBounds_toArray, List.set_cons_zero, List.set_cons_succ]
          refine takeH (i := 4) (d := 99) (v := ?va4) rfl (by kernel_rfl) (by kernel_rfl) (by kernel_rfl) (by kernel_rfl) (fun _ _ _ h => h) (Or.inl ⟨by kernel_rfl, ?hya4⟩) hHeld ?resta4
          case hya4 =>
            intro w hSw
            try dsimp only at hSw
            first | (go_simp; done) | (go_simp; with_reducible rfl)
          try simp only [Act.put, List.setIfInBounds_toArray, List.set_cons_zero, List.set_cons_succ]
          refine takeH (i := 5) (d := 100) (v := ?va5) rfl (by kernel_rfl) (by kernel_rfl) (by kernel_rfl) (by kernel_rfl) (fun _ _ _ h => h) (Or.inl ⟨by kernel_rfl, ?hya5⟩) hHeld ?resta5
          case hya5 =>
            intro w hSw
            try dsimp only at hSw
            first | (go_simp; done) | (go_simp; with_reducible rfl)
          try simp only [Act.put, List.setIfInBounds_toArray, List.set_cons_zero, List.set_cons_succ]
          refine takeH (i := 6) (d := 101) (v := ?va6) rfl (by kernel_rfl) (by kernel_rfl) (by kernel_rfl) (by kernel_rfl) (fun _ _ _ h => h) (Or.inl ⟨by kernel_rfl, ?hya6⟩) hHeld ?resta6
          case hya6 =>
            intro w hSw
            try dsimp only at hSw
            first | (go_simp; done) | (go_simp; with_reducible rfl)
          try simp only [Act.put, List.setIfInBounds_toArray, List.set_cons_zero, List.set_cons_succ]
          refine takeH (i := 7) (d := 102) (v := ?va7) rfl (by kernel_rfl) (by kernel_rfl) (by kernel_rfl) (by kernel_rfl) (fun _ _ _ h => h) (Or.inl ⟨by kernel_rfl, ?hya7⟩) hHeld ?resta7
          case hya7 =>
            intro w hSw
            try dsimp only at hSw
            first | (go_simp; done) | (go_simp; with_reducible rfl)
          try simp only [Act.put, List.setIfInBounds_toArray, List.set_cons_zero, List.set_cons_succ]
          refine takeH (i := 8) (d := 103) (v := ?va8) rfl (by kernel_rfl) (by kernel_rfl) (by kernel_rfl) (by kernel_rfl) (fun _ _ _ h => h) (Or.inl ⟨by kernel_rfl, ?hya8⟩) hHeld ?resta8
          case hya8 =>
            intro w hSw
            try dsimp only at hSw
            first | (go_simp; done) | (go_simp; with_reducible rfl)
          try simp only [Act.put, List.setIfInBounds_toArray, List.set_cons_zero, List.set_cons_succ]
          refine takeH (i := 9) (d := 104) (v := ?va9) rfl (by kernel_rfl) (by kernel_rfl) (by kernel_rfl) (by kernel_rfl) (fun _ _ _ h => h) (Or.inl ⟨by kernel_rfl, ?hya9⟩) hHeld ?resta9
          case hya9 =>
            intro w hSw
            try dsimp only at hSw
            first | (go_simp; done) | (go_simp; with_reducible rfl)
          try simp only [Act.put, List.setIfInBounds_toArray, List.set_cons_zero, List.set_cons_succ]
          refine takeH (i := 10) (d := 105) (v := ?va10) rfl (by kernel_rfl) (by kernel_rfl) (by kernel_rfl) (by kernel_rfl) (fun _ _ _ h => h) (Or.inl ⟨by kernel_rfl, ?hya10⟩) hHeld ?resta10
          case hya10 =>
            intro w hSw
            try dsimp only at hSw
            first | (go_simp; done) | (go_simp; with_reducible rfl)
          try simp only [Act.put, List.setIfInBounds_toArray, List.set_cons_zero, List.set_cons_succ]
          refine takeH (i := 11) (d := 106) (v := ?va11) rfl (by kernel_rfl) (by kernel_rfl) (by kernel_rfl) (by kernel_rfl) (fun _ _ _ h => h) (Or.inl ⟨by kernel_rfl, ?hya11⟩) hHeld ?resta11
          case hya11 =>
            intro w hSw
            try dsimp only at hSw
            first | (go_simp; done) | (go_simp; with_reducible rfl)
          try simp only [Act.put, List.setIfInBounds_toArray, List.set_cons_zero, List.set_cons_succ]
          refine wpAnyH_ready (rs := [12]) (by kernel_rfl) (by simp) ?_
          refine AllReadyH.cons rfl (fun K hK => ?_) AllReadyH.nil
          have HH := Lib.hid hHeld
          clear hHeld
          go_simp
          refine hK.out _ _ ?_ (fun hNew => ?_)
          · exact f2d
          clear hK K HH
          have hHeld := hNew
          clear hNew
          try simp only [Act.put, List.setIfInBounds_toArray, List.set_cons_zero, List.set_cons_succ]
          refine wpAnyH_ready (rs := [13]) (by kernel_rfl) (by simp) ?_
          refine AllReadyH.cons rfl (fun K hK => ?_) AllReadyH.nil
          have HH := Lib.hid hHeld
          clear hHeld
          go_simp
          refine (HAH.out _ hq0).mono ?_
          rintro e w5 ⟨u, rfl, hru, hfq⟩
          obtain ⟨ua, uc, rfl⟩ := ow_sliceN hru
          have HRU := Lib.hid hru
          have HFQ := Lib.hid hfq
          have hz5 : w5.frozen? ⟨X.t2, i, none⟩ = false := (HZ5.out w5 hfq).1
          have hc5 : w5.cell? ⟨X.t2, i, none⟩ = some (.slice a2 cc.length c2) := (HZ5.out w5 hfq).2.1
          clear hru hfq
          refine hK.out _ _ ?_ (fun hNew => ?_)
          · exact (HZ5.out w5 HFQ.out).2.2.1
          clear hK K HH
          have hHeld := hNew
          clear hNew
          try simp only [Act.put, List.setIfInBounds_toArray, List.set_cons_zero, List.set_cons_succ]
          refine wpAnyH_ready (rs := [14]) (by kernel_rfl) (by simp) ?_
          refine AllReadyH.cons rfl (fun K hK => ?_) AllReadyH.nil
          have HH := Lib.hid hHeld
          clear hHeld
          go_simp
          refine hK.out _ _ ?_ (fun hNew => ?_)
          · exact (HZ5.out w5 HFQ.out).2.2.1
          clear hK K HH
          have hHeld := hNew
          clear hNew
          try simp only [Act.put, List.setIfInBounds_toArray, List.set_cons_zero, List.set_cons_succ]
          refine wpAnyH_ready (rs := [15]) (by kernel_rfl) (by simp) ?_
          refine AllReadyH.cons rfl (fun K hK => ?_) AllReadyH.nil
          have HH := Lib.hid hHeld
          clear hHeld
          go_simp
          refine hK.out _ _ ?_ (fun hNew => ?_)
          · exact (HZ5.out w5 HFQ.out).2.2.2 _
          clear hK K HH
          have hHeld := hNew
          clear hNew
          try simp only [Act.put, List.setIfInBounds_toArray, List.set_cons_zero, List.set_cons_succ]
          refine wpAnyH_done (by kernel_rfl) ?_ _
          go_wp2
          go_roundw
          case rel => exact ⟨j + 1, by go_num, by omega, HMV.out _ _ HFQ.out HRU.out⟩
          case measure => simp [intOf]; omega
        · obtain rfl : j = c.length := by omega
          rw [List.take_length] at HCJ
          go_upto_region 12 with (fail)
          have f1 : wo.cell? ⟨p, 1, none⟩ = some (.slice (some ⟨X.t1, 0, none⟩) N.old.length N.old.length) := by
            have h1 : wo.cell? ⟨p, 1, none⟩ = some (rowV Xj.t1 Xj.r1) := HCJ.out.cells.2.1
            rw [HX.out.2.1, HX.out.1, HR1.out, HL1.out] at h1
            exact h1
          have f2 : wo.cell? ⟨p, 2, none⟩ = some (.slice (some ⟨X.t2, 0, none⟩) X.r2.length X.r2.length) := by
            have h1 : wo.cell? ⟨p, 2, none⟩ = some (rowV Xj.t2 Xj.r2) := HCJ.out.cells.2.2.1
            rw [HX.out.2.2.1, rowV_len X.t2 HX.out.2.2.2, HR2.out] at h1
            exact h1
          have f3 : wo.cell? ⟨p, 3, none⟩ = some (.int .i64 (a : Int)) := HCJ.out.cells.2.2.2.1
          have z1 := HCJ.out.free 1
          have z2 := HCJ.out.free 2
          have z3 := HCJ.out.free 3
          have hne1 : Xj.r1 ≠ [] := by rw [HX.out.1]; exact rowsV_ne H.out.c.row1 (by intro e; have := HL1.out; rw [e] at b1; simp at b1; omega)
          have hnp : ¬ X.t1 = p := by
            have h1 := HCJ.out.not_p (HCJ.out.row1.bt hne1) (by decide)
            rw [HX.out.2.1] at h1
            exact h1
          have hnp' : ¬ p = X.t1 := fun e => hnp e.symm
          have hT1 : Hid (Grew F w wo X.t1) := by
            have h1 := (HCJ.out.row1.blk hne1).2
            rw [HX.out.2.1] at h1
            exact h1
          rw [HX.out.2.1] at q2 q3
          have HS := Lib.hid (fun W (hf : Fr (fun _ => False) wo W) => (HCJ.out.quiet hf).set1 a [] (.slice none 0 0) (by exact hal) ChV.nil (fun g hg => (by cases hg)))
          rw [HX.out.2.1] at HS
          have HMV : Hid (moveN N a = { N with old := N.old.set a [], young := c.foldl (hangN N.seed) N.young, at_ := a + 1 }) := by
            show _ = _
            unfold moveN
            rw [HCC.out]
            cases c with
            | nil => exact absurd rfl HCL.out
            | cons x c => rfl
          clear q4 hlt HM hne1
          by_cases hen : a + 1 = N.old.length
          · have g5 : (((a + 1 : Nat) : Int) == (N.old.length : Int)) = true := beq_iff_eq.2 (by omega)
            have HE : Hid (stepN N = { N with old := c.foldl (hangN N.seed) N.young, young := [], at_ := 0 }) := by
              show _ = _
              rw [HST.out, HMV.out]
              unfold endN
              rw [if_pos (by show a + 1 = (N.old.set a []).length; rw [List.length_set]; exact hen)]
            have HR3 : Hid (rowV Xj.t2 Xj.r2 = .slice (some ⟨X.t2, 0, none⟩) X.r2.length X.r2.length) := by
              show _ = _
              rw [HX.out.2.2.1, rowV_len X.t2 HX.out.2.2.2, HR2.out]
            have HG := Lib.hid hen
            clear hen
            go_region
            go_wp2
            go_quiet (fail)
            go_wp2
            go_end0
            refine ⟨rfl, ?_⟩
            rw [HE.out]
            have e9 : ((a : Int) + 1) = ((a + 1 : Nat) : Int) := by omega
            rw [e9]
            have hT1F : X.t1 < w.heap.size → F X.t1 := fun hl => hT1.out.elim id (fun q => absurd q.1 (by omega))
            refine RdTo.mkW H.out hB ((((HS.out wo (Fr.refl _ _)).setAt (a + 1)).quiet (Fr.drewN _ _ _)).done' HR3.out) (by simp) ?_ (HE.out ▸ H.out.fit.step)
            exact (((((HFJ.out.thenSet _ _ hT1F).thenSet _ _ (fun _ => HFP.out)).thenDrewN _).thenSet _ _ (fun _ => HFP.out)).thenSet _ _ (fun _ => HFP.out)).thenSet _ _ (fun _ => HFP.out)
          · have g6 : (((a + 1 : Nat) : Int) == (N.old.length : Int)) = false := beq_eq_false_iff_ne.2 (by omega)
            have HE : Hid (stepN N = { N with old := N.old.set a [], young := c.foldl (hangN N.seed) N.young, at_ := a + 1 }) := by
              show _ = _
              rw [HST.out, HMV.out]
              unfold endN
              rw [if_neg (by show ¬ a + 1 = (N.old.set a []).length; rw [List.length_set]; exact hen)]
            clear hen
            go_region
            go_wp2
            go_quiet (fail)
            go_wp2
            go_end0
            refine ⟨rfl, ?_⟩
            rw [HE.out]
            have e9 : ((a : Int) + 1) = ((a + 1 : Nat) : Int) := by omega
            rw [e9]
            have hT1F : X.t1 < w.heap.size → F X.t1 := fun hl => hT1.out.elim id (fun q => absurd q.1 (by omega))
            refine RdTo.mkW H.out hB (((HS.out wo (Fr.refl _ _)).setAt (a + 1)).quiet ((Fr.drew _ _).trans (Fr.drewN _ _ _) fun _ h _ => h)) (by simp) ?_ (HE.out ▸ H.out.fit.step)
            exact ((HFJ.out.thenSet _ _ hT1F).thenSet _ _ (fun _ => HFP.out)).thenDrew.thenDrewN _
theorem rdStep_any (w : World) (B p : Nat) (F : Nat → Prop) (N : NM) (L : Pl) (X : RB) (h : RefD w B p F N L X) (hB : B ≤ w.heap.size) (hol : N.old.length ≤ 4398046511104) (hyl : N.young.length ≤ 4398046511104) (hL : L.length ≤ 2199023255552) :
    Calls Try.prog 134 #[.pointer (some ⟨p, 0, none⟩)] w fun e w' => e = .returned (.tuple #[]) ∧ RdTo w B p F (stepN N) L w' := by
  by_cases hy : N.young = []
  · refine (rdStep_still w B p F N _ _ X h.c hy).mono ?_
    rintro e w' ⟨h1, rfl⟩
    have : stepN N = N := by unfold stepN; rw [if_pos hy]
    rw [this]
    exact ⟨h1, h.still hB (Fr.refl _ _)⟩
  · exact rdStep_moving w B p F N L X h hB hy hol hyl hL
end Go.Proofs.Ytgomilodeaafdaa
namespace Go.Proofs.Ytgomilodeaafdaa
open Go.RowKit
section
variable {w wo wr w' w5 : World} {B p : Nat} {F G : Nat → Prop} {N : NM} {K : List ByteArray} {V : List Int} {X : RB} {i : Nat} {c c' : List ByteArray} {u : Value}
/-- a cell of a table that is loaded, and then stored -/
structure PutF (wo : World) (p f t i n : Nat) (v : Value) : Prop where
  cp : wo.cell? ⟨p, f, none⟩ = some (.slice (some ⟨t, 0, none⟩) n n)
  ct : wo.cell? ⟨t, i, none⟩ = some v
  hold : ∀ w5, Fr (fun _ => False) wo.drew w5 → w5.frozen? ⟨t, i, none⟩ = false ∧ w5.cell? ⟨t, i, none⟩ = some v ∧ w5.cell? ⟨p, f, none⟩ = some (.slice (some ⟨t, 0, none⟩) n n) ∧ ∀ u, (w5.setCell ⟨t, i, none⟩ u).cell? ⟨p, f, none⟩ = some (.slice (some ⟨t, 0, none⟩) n n)
theorem PutF.mk' {p f t i n : Nat} {v : Value} {cs : Array Value} {e : TypeId} (cp : wo.cell? ⟨p, f, none⟩ = some (.slice (some ⟨t, 0, none⟩) n n)) (ct : wo.cell? ⟨t, i, none⟩ = some v) (hb : wo.heap[t]? = some (.cells cs e (0, 0))) (hnp : ¬ p = t) : PutF wo p f t i n v :=
  ⟨cp, ct, fun w5 hf => by
    have hf2 := (Fr.drew (fun _ => False) wo).trans hf (fun _ h _ => h)
    have hb5 := (hf2.block t (Array.getElem?_eq_some_iff.1 hb).1 (fun h => h)).trans hb
    exact ⟨free_of_blk hb5 i, hf2.cell ct (fun h => h), hf2.cell cp (fun h => h), fun u => (Fr.setCell w5 ⟨t, i, none⟩ u).cell (hf2.cell cp (fun h => h)) hnp⟩⟩
theorem RefC.putF1 (h : RefC wo B p G N K V X) (hc : N.old[i]? = some c) : ∃ a2 c2, PutF wo p 1 X.t1 i X.r1.length (.slice a2 c.length c2) ∧ RdC wo 1 (.slice a2 c.length c2) c.length (c.map .string) := by
  obtain ⟨v2, -, hx2, hcv2, hzv2, hch2⟩ := h.row1.at i c hc
  obtain ⟨a2, c2, rfl⟩ := hch2.slice
  have h1 := h.cells.2.1
  rw [rowV_of hx2] at h1
  exact ⟨a2, c2, PutF.mk' h1 hcv2 (h.row1.blk hx2).1 (fun e => h.not_p (h.row1.bt hx2) (by decide) e.symm), hch2.1⟩
theorem RefC.putF2 (h : RefC wo B p G N K V X) (hc : N.young[i]? = some c) : ∃ a2 c2, PutF wo p 2 X.t2 i X.r2.length (.slice a2 c.length c2) ∧ RdC wo 1 (.slice a2 c.length c2) c.length (c.map .string) := by
  obtain ⟨v2, -, hx2, hcv2, hzv2, hch2⟩ := h.row2.at i c hc
  obtain ⟨a2, c2, rfl⟩ := hch2.slice
  have h1 := h.cells.2.2.1
  rw [rowV_of hx2] at h1
  exact ⟨a2, c2, PutF.mk' h1 hcv2 (h.row2.blk hx2).1 (fun e => h.not_p (h.row2.bt hx2) (by decide) e.symm), hch2.1⟩
theorem RefC.grown (h : RefC wr B p (Grew F w wr) N K V X) (hf : Fr F w wr) (hB : B ≤ w.heap.size) (hq : Fr (fun _ => False) wr w5) : RefC w5 B p (Grew F w w5) N K V X := by
  have hs := hf.size
  have hs2 := hq.size
  refine (h.quiet hq).wide (fun g hg => hg.imp id (fun q => ⟨q.1, by omega⟩)) (fun g hg => ?_)
  rcases hg with hg | hg
  · have := h.lt g (.inl hg)
    exact ⟨this.1, by omega⟩
  · exact ⟨by omega, hg.2⟩
theorem grew_set {a : Addr} {v : Value} {k : Nat} : Grew F w (w5.setCell a v) k ↔ Grew F w w5 k := by
  unfold Grew
  rw [World.size_setCell]
theorem RefC.lay1 (hB : B ≤ w.heap.size) (h : RefC wr B p (Grew F w wr) N K V X) (hf : Fr F w wr) (hc : N.old[i]? = some c) (hq : Fr (fun _ => False) wr w5) (hu : RowS wr.heap.size w5 u c') :
    RefC (w5.setCell ⟨X.t1, i, none⟩ u) B p (Grew F w (w5.setCell ⟨X.t1, i, none⟩ u)) { N with old := N.old.set i c' } K V { X with r1 := X.r1.set i u } ∧ Fr F w (w5.setCell ⟨X.t1, i, none⟩ u) := by
  have hs := hf.size
  have hil := (List.getElem?_eq_some_iff.1 hc).1
  have h5 := h.grown hf hB hq
  have hch : ChV w5 (Grew F w w5) u c' := ⟨RdC.of_owns hu, fun g hg => by
    obtain ⟨q1, q2, q3⟩ := own_blk hu hg
    exact ⟨.inr ⟨by omega, q2⟩, q3⟩⟩
  have h6 := h5.set1 i c' u hil hch (fun g hg e => by
    have q1 := (own_blk hu hg).1
    have q2 := (own_blk h.ks e).2.1
    omega)
  have hne : X.r1 ≠ [] := by intro e; have := h.row1.len; rw [e] at this; simp at this; omega
  have ht := (h.row1.blk hne).2
  refine ⟨h6.wide (fun g hg => grew_set.2 hg) (fun g hg => h6.lt g (grew_set.1 hg)), ?_⟩
  refine (hf.wide hq (fun _ h => h.elim)).wide (Fr.setCell w5 ⟨X.t1, i, none⟩ u) (fun g hg => ?_)
  rw [show g = X.t1 from hg]
  exact ht.imp id (fun hg => hg.1)
theorem RefC.lay2 (hB : B ≤ w.heap.size) (h : RefC wr B p (Grew F w wr) N K V X) (hf : Fr F w wr) (hc : N.young[i]? = some c) (hq : Fr (fun _ => False) wr w5) (hu : RowS wr.heap.size w5 u c') :
    RefC (w5.setCell ⟨X.t2, i, none⟩ u) B p (Grew F w (w5.setCell ⟨X.t2, i, none⟩ u)) { N with young := N.young.set i c' } K V { X with r2 := X.r2.set i u } ∧ Fr F w (w5.setCell ⟨X.t2, i, none⟩ u) := by
  have hs := hf.size
  have hil := (List.getElem?_eq_some_iff.1 hc).1
  have h5 := h.grown hf hB hq
  have hch : ChV w5 (Grew F w w5) u c' := ⟨RdC.of_owns hu, fun g hg => by
    obtain ⟨q1, q2, q3⟩ := own_blk hu hg
    exact ⟨.inr ⟨by omega, q2⟩, q3⟩⟩
  have h6 := h5.set2 i c' u hil hch (fun g hg e => by
    have q1 := (own_blk hu hg).1
    have q2 := (own_blk h.ks e).2.1
    omega)
  have hne : X.r2 ≠ [] := by intro e; have := h.row2.len; rw [e] at this; simp at this; omega
  have ht := (h.row2.blk hne).2
  refine ⟨h6.wide (fun g hg => grew_set.2 hg) (fun g hg => h6.lt g (grew_set.1 hg)), ?_⟩
  refine (hf.wide hq (fun _ h => h.elim)).wide (Fr.setCell w5 ⟨X.t2, i, none⟩ u) (fun g hg => ?_)
  rw [show g = X.t2 from hg]
  exact ht.imp id (fun hg => hg.1)
/-- the dict's own block is written: one field -/
theorem RefC.re (h : RefC w B p F N K V X) (hf : Fr (fun k => k = p) w w') {N' : NM} {X' : RB} (hb : w'.heap[p]? = some (rdO N'.seed N'.at_ X')) (h1 : RowsV w' F X'.t1 X'.r1 N'.old) (h2 : RowsV w' F X'.t2 X'.r2 N'.young) (htt : X'.r1 ≠ [] → X'.r2 ≠ [] → X'.t1 ≠ X'.t2) (hk : X'.kv = X.kv) (hv : X'.vv = X.vv)
    (k1 : ∀ v ∈ X'.r1, ∀ g, v.ownBlock = some g → X.kv.ownBlock ≠ some g) (k2 : ∀ v ∈ X'.r2, ∀ g, v.ownBlock = some g → X.kv.ownBlock ≠ some g) : RefC w' B p F N' K V X' := by
  refine ⟨hb, h.fp, h1, h2, htt, ?_, ?_, ?_, ?_, ?_, ?_, fun k hk => ⟨(h.lt k hk).1, Nat.lt_of_lt_of_le (h.lt k hk).2 hf.size⟩⟩
  · rw [hk]; exact ow_fr h.ks hf (fun g hg => h.not_p (own_blk h.ks hg).2.2 (by decide))
  · rw [hv]; exact ow_fr h.vs hf (fun g hg => h.not_p (own_blk h.vs hg).2.2 (by decide))
  · rw [hk]; exact h.fk
  · rw [hv]; exact h.fv
  · rw [hk]; exact k1
  · rw [hk]; exact k2
/-- a table of empty chains, in new memory, becomes the old one -/
theorem RefC.new1 (h : RefC w B p F N K V X) (hB : B ≤ w.heap.size) (ho : N.old = []) (hy : N.young = []) (n : Nat) (hn : 0 < n) :
    RefC ((w.alloc (.cells (List.replicate n (.slice none 0 0)).toArray 39)).setCell ⟨p, 1, none⟩ (.slice (some ⟨w.heap.size, 0, none⟩) n n)) B p (fun k => F k ∨ k = w.heap.size) { N with old := List.replicate n [] } K V { X with t1 := w.heap.size, r1 := List.replicate n (.slice none 0 0) } := by
  obtain ⟨W, hW⟩ : ∃ W, w.alloc (.cells (List.replicate n (.slice none 0 0)).toArray 39) = W := ⟨_, rfl⟩
  have hq : Fr (fun _ => False) w W := by rw [← hW]; exact Fr.alloc _ _ _
  have hs : W.heap.size = w.heap.size + 1 := by rw [← hW]; simp
  have hnew : W.heap[w.heap.size]? = some (.cells (List.replicate n (.slice none 0 0)).toArray 39 (0, 0)) := by rw [← hW]; exact alloc_new _ _
  rw [hW]
  have h2 : RefC W B p (fun k => F k ∨ k = w.heap.size) N K V X := (h.quiet hq).wide (fun _ hk => .inl hk) (fun k hk => hk.elim (fun hk => ⟨(h.lt k hk).1, by have := (h.lt k hk).2; omega⟩) (fun hk => by subst hk; exact ⟨hB, by omega⟩))
  have hr2 : X.r2 = [] := by have := h.row2.len; rw [hy] at this; exact List.length_eq_zero_iff.1 this
  have hf := Fr.setCell W ⟨p, 1, none⟩ (.slice (some ⟨w.heap.size, 0, none⟩) n n)
  have hrep : (List.replicate n (Value.slice none 0 0)) ≠ [] := by intro e; have := congrArg List.length e; simp at this; omega
  refine h2.re hf ?_ (RowsV.fresh ?_ (.inr rfl)) (h2.rows2 hf) (fun _ e => absurd hr2 e) rfl rfl (fun v hv g hg => ?_) h2.k2
  · rw [heap_setCell_same W p 1 _ _ _ h2.blk]
    unfold rdO
    simp only [rowV_of hrep, List.length_replicate]
    rfl
  · exact (hf.block _ (by show w.heap.size < _; omega) (fun e => by have h3 : w.heap.size = p := e; have := (h.lt p h.fp).2; omega)).trans hnew
  · rw [(List.mem_replicate.1 hv).2] at hg
    cases hg
/-- a table of empty chains, in new memory, becomes the young one -/
theorem RefC.new2 (h : RefC w B p F N K V X) (hB : B ≤ w.heap.size) (n : Nat) (hn : 0 < n) :
    RefC (((w.alloc (.cells (List.replicate n (.slice none 0 0)).toArray 39)).setCell ⟨p, 2, none⟩ (.slice (some ⟨w.heap.size, 0, none⟩) n n)).setCell ⟨p, 3, none⟩ (.int .i64 0)) B p (fun k => F k ∨ k = w.heap.size) { N with young := List.replicate n [], at_ := 0 } K V { X with t2 := w.heap.size, r2 := List.replicate n (.slice none 0 0) } := by
  obtain ⟨W, hW⟩ : ∃ W, w.alloc (.cells (List.replicate n (.slice none 0 0)).toArray 39) = W := ⟨_, rfl⟩
  have hq : Fr (fun _ => False) w W := by rw [← hW]; exact Fr.alloc _ _ _
  have hs : W.heap.size = w.heap.size + 1 := by rw [← hW]; simp
  have hnew : W.heap[w.heap.size]? = some (.cells (List.replicate n (.slice none 0 0)).toArray 39 (0, 0)) := by rw [← hW]; exact alloc_new _ _
  rw [hW]
  have h2 : RefC W B p (fun k => F k ∨ k = w.heap.size) N K V X := (h.quiet hq).wide (fun _ hk => .inl hk) (fun k hk => hk.elim (fun hk => ⟨(h.lt k hk).1, by have := (h.lt k hk).2; omega⟩) (fun hk => by subst hk; exact ⟨hB, by omega⟩))
  have hf : Fr (fun k => k = p) W ((W.setCell ⟨p, 2, none⟩ (.slice (some ⟨w.heap.size, 0, none⟩) n n)).setCell ⟨p, 3, none⟩ (.int .i64 0)) := ((Fr.refl (fun k => k = p) W).thenSet _ _ (fun _ => rfl)).thenSet _ _ (fun _ => rfl)
  have hrep : (List.replicate n (Value.slice none 0 0)) ≠ [] := by intro e; have := congrArg List.length e; simp at this; omega
  refine h2.re hf ?_ (h2.rows1 hf) (RowsV.fresh ?_ (.inr rfl)) (fun hr _ e => ?_) rfl rfl h2.k1 (fun v hv g hg => ?_)
  · have h3 := heap_setCell_same W p 2 _ _ (.slice (some ⟨w.heap.size, 0, none⟩) n n) h2.blk
    rw [heap_setCell_same _ p 3 _ _ _ h3]
    unfold rdO
    simp only [rowV_of hrep, List.length_replicate]
    rfl
  · exact (hf.block _ (by show w.heap.size < _; omega) (fun e => by have h3 : w.heap.size = p := e; have := (h.lt p h.fp).2; omega)).trans hnew
  · have h3 := (h.row1.bt hr).lt
    have h4 : X.t1 = w.heap.size := e
    omega
  · rw [(List.mem_replicate.1 hv).2] at hg
    cases hg
end
theorem mk_gen {P : Program} (t e : TypeId) (i : TypeInfo) (z : Value) (v : Value) (ht : P.underlying t = some (.slice e)) (hi : P.info? e = some i) (hz : i.zero = some z) (hv : z.cells = #[v]) (hs : i.size = 1)
    (n : Nat) (hn : i.bytes * n ≤ 281474976710656) (hn2 : n ≤ 281474976710656) (w : World) :
    (Instr.makeSlice t (.int .i64 n) (.int .i64 n)).run P w = .ok (.slice (some ⟨w.heap.size, 0, none⟩) n n) (w.alloc (.cells (List.replicate n v).toArray e)) := by
  have h := run_make (P := P) w t e i z ht hi hz .i64 .i64 n n (by omega) (Int.le_refl _) (by rw [← Int.natCast_mul]; omega) (by omega)
  rw [h, hv, hs, Nat.mul_one, Int.toNat_natCast, madeCells_one]
theorem idx_keys {w : World} {kv : Value} {L : Pl} (h : RdC w 1 kv (L.map (·.1)).length ((L.map (·.1)).map .string)) : RdC w 1 kv L.length (L.map fun x => .string x.1) := by
  rw [List.length_map, List.map_map] at h
  exact h
/-- what lies under a key -/
def valN (L : Pl) (key : ByteArray) : Int := match fdG key L with
  | some i => ((L[i]?).map (·.2)).getD 0
  | none => 0
set_option maxHeartbeats 1000000 in
theorem rdGet_any (w : World) (B p : Nat) (F : Nat → Prop) (N : NM) (L : Pl) (X : RB) (key : ByteArray) (h : RefD w B p F N L X) (hB : B ≤ w.heap.size) (hol : N.old.length ≤ 4398046511104) (hyl : N.young.length ≤ 4398046511104) (hL : L.length ≤ 2199023255552) :
    Calls Try.prog 72 #[.pointer (some ⟨p, 0, none⟩), .string key] w fun e w' => e = .returned (.tuple #[.int .i64 (valN L key), .bool (fdG key L).isSome]) ∧ RdTo w B p F (stepN N) L w' := by
  have HS := Lib.hid (rdStep_any w B p F N L X h hB hol hyl hL)
  clear h hol hyl
  cases ha : fdG key L with
  | none =>
    have hv : valN L key = 0 := by unfold valN; rw [ha]
    have g1 : decide (idxV none < 0) = true := rfl
    have HA := Lib.hid ha
    rw [hv]
    clear ha hv
    go_enter Try.func72, Try.ntmps72
    go_wp2_with fail
    refine HS.out.mono ?_
    rintro e w1 ⟨rfl, X1, D1, F1⟩
    have HI := Lib.hid (rdIndex_any w1 p L X1.kv key D1.c.cells.2.2.2.2.1 (idx_keys (RdC.of_owns D1.c.ks)))
    have c5 := D1.c.cells.2.2.2.2.2
    have HD := Lib.hid D1
    have HF := Lib.hid F1
    clear D1 F1 HS
    rw [HA.out] at HI
    go_wp2_with fail
    refine HI.out.mono ?_
    rintro e w' ⟨rfl, rfl⟩
    go_wp2_with fail
    go_ret2
    exact ⟨rfl, X1, HD.out, HF.out⟩
  | some i =>
    obtain ⟨x, hx⟩ := fdG_some ha
    have hil := fdG_lt ha
    have hv : valN L key = x := by unfold valN; rw [ha]; simp [hx]
    rw [hv]
    have HA := Lib.hid ha
    have HX := Lib.hid hx
    have b0 : (0 : Int) ≤ (i : Int) := by omega
    have b1 : (i : Int) < (L.length : Int) := by omega
    have g1 : decide ((i : Int) < 0) = false := decide_eq_false (by omega)
    have e0 : idxV (some i) = (i : Int) := rfl
    clear ha hv hx
    go_enter Try.func72, Try.ntmps72
    go_wp2_with fail
    refine HS.out.mono ?_
    rintro e w1 ⟨rfl, X1, D1, F1⟩
    have HI := Lib.hid (rdIndex_any w1 p L X1.kv key D1.c.cells.2.2.2.2.1 (idx_keys (RdC.of_owns D1.c.ks)))
    have c5 := D1.c.cells.2.2.2.2.2
    have HD := Lib.hid D1
    have HF := Lib.hid F1
    clear D1 F1 HS
    obtain ⟨va, vc, hvv⟩ := ow_sliceN HD.out.c.vs
    rw [hvv] at c5
    have hrd := RdC.of_owns HD.out.c.vs
    rw [hvv] at hrd
    obtain ⟨g, off, rfl, hcell⟩ := hrd.at (by rw [List.length_map, List.length_map]; omega)
    have hcx := hcell i (.int .i64 x) (by rw [List.getElem?_map, List.getElem?_map, HX.out]; rfl)
    rw [List.length_map] at c5
    rw [HA.out, e0] at HI
    clear hil hvv hrd hcell e0
    go_wp2_with fail
    refine HI.out.mono ?_
    rintro e w' ⟨rfl, rfl⟩
    go_wp2_with fail
    go_ret2
    exact ⟨rfl, X1, HD.out, HF.out⟩
end Go.Proofs.Ytgomilodeaafdaa
namespace Go.Proofs.Ytgomilodeaafdaa
open Go.RowKit
theorem info_int : (Try.prog.info? 3).map (fun i => (i.zero, i.size, i.bytes)) = some (some (.int .i64 0), 1, 8) := by kernel_rfl
theorem map_fst_set {α : Type} {L : List (ByteArray × α)} {i : Nat} {key : ByteArray} {x y : α} (h : L[i]? = some (key, x)) : (L.set i (key, y)).map (·.1) = L.map (·.1) := map_set_same (·.1) L i (key, x) (key, y) h rfl
section
variable {w w' w2 : World} {B p : Nat} {F : Nat → Prop} {N : NM} {K : List ByteArray} {V : List Int} {X : RB}
/-- a value is laid anew -/
theorem RefC.setV (h : RefC w B p F N K V X) {g c n : Nat} (hv : X.vv = .slice (some ⟨g, 0, none⟩) n c) (i : Nat) (x : Int) : RefC (w.setCell ⟨g, i, none⟩ (.int .i64 x)) B p F N K (V.set i x) X ∧ (w.heap.size ≤ g → False) ∧ F g := by
  have hf := Fr.setCell w ⟨g, i, none⟩ (.int .i64 x)
  have hvs := h.vs
  have hob : X.vv.ownBlock = some g := by rw [hv]; rfl
  obtain ⟨q1, q2, q3⟩ := own_blk h.vs hob
  have hne : ∀ {e : TypeId} {k : Nat}, BT e w k → e ≠ 3 → ¬ k = g := fun hk hne e => absurd e (hk.ne q3 hne)
  have hn : n = V.length := by
    obtain ⟨a, cap, e⟩ := ow_sliceN h.vs
    rw [hv] at e
    cases e
    rfl
  have hst : (w.setCell ⟨g, i, none⟩ (.int .i64 x)).ownsRow B 3 1 X.vv V.length ((V.map (.int .i64)).set i (.int .i64 x)) := by
    have h2 := h.vs
    rw [hv, hn] at h2 ⊢
    exact (h2.stored i (.int .i64 x)).1
  refine ⟨⟨(hf.block p (h.lt p h.fp).2 (hne h.bp (by decide))).trans h.blk, h.fp, ⟨h.row1.len, fun hr => ⟨(hf.block _ (h.row1.bt hr).lt (hne (h.row1.bt hr) (by decide))).trans (h.row1.blk hr).1, (h.row1.blk hr).2⟩, fun j c' hc => ?_⟩, ⟨h.row2.len, fun hr => ⟨(hf.block _ (h.row2.bt hr).lt (hne (h.row2.bt hr) (by decide))).trans (h.row2.blk hr).1, (h.row2.blk hr).2⟩, fun j c' hc => ?_⟩, h.tt, ow_fr h.ks hf (fun k hk => hne (own_blk h.ks hk).2.2 (by decide)), ?_, h.fk, h.fv, h.k1, h.k2, fun k hk => ⟨(h.lt k hk).1, Nat.lt_of_lt_of_le (h.lt k hk).2 hf.size⟩⟩, by omega, h.fv g hob⟩
  · obtain ⟨v, h1, h2⟩ := h.row1.ch j c' hc
    exact ⟨v, h1, h2.other hf (fun k _ e hk => hne hk (by decide) e)⟩
  · obtain ⟨v, h1, h2⟩ := h.row2.ch j c' hc
    exact ⟨v, h1, h2.other hf (fun k _ e hk => hne hk (by decide) e)⟩
  · rw [List.length_set, List.map_set]
    exact hst
/-- a key more, in its row; the dict's block still names the elder row -/
theorem RefC.keyed (h : RefC w B p F N K V X) (hB : B ≤ w.heap.size) {kv' : Value} {key : ByteArray} (hr : w'.ownsRow B 9 1 kv' (K.length + 1) ((K ++ [key]).map .string)) (hg : w.grownBy w' X.kv.ownBlock) (ha : ∀ g, kv'.ownBlock = some g → X.kv.ownBlock = some g ∨ w.heap.size ≤ g) :
    RefC (w'.setCell ⟨p, 4, none⟩ kv') B p (Grew F w w') N (K ++ [key]) V { X with kv := kv' } := by
  have hf := Fr.of_grownBy hg
  have hs := hf.size
  have hne : ∀ {e : TypeId} {k : Nat}, BT e w k → e ≠ 9 → ¬ X.kv.ownBlock = some k := fun {e k} hk hne e2 => absurd rfl (hk.ne (own_blk h.ks e2).2.2 hne)
  have hp : w'.heap[p]? = some (rdO N.seed N.at_ X) := (hf.block p (h.lt p h.fp).2 (hne h.bp (by decide))).trans h.blk
  have hf2 := Fr.setCell w' ⟨p, 4, none⟩ kv'
  have hlt : ∀ k, Grew F w w' k → B ≤ k ∧ k < (w'.setCell ⟨p, 4, none⟩ kv').heap.size := fun k hk => by
    rw [World.size_setCell]
    rcases hk with hk | hk
    · exact ⟨(h.lt k hk).1, by have := (h.lt k hk).2; omega⟩
    · exact ⟨by omega, hk.2⟩
  have hbp : BT 119 w' p := ⟨_, hp⟩
  have hnp : ∀ {e : TypeId} {k : Nat}, BT e w' k → e ≠ 119 → ¬ k = p := fun hk hne e => absurd e (hk.ne hbp hne)
  have hrow : ∀ {t r cs}, RowsV w F t r cs → (∀ v ∈ r, ∀ g, v.ownBlock = some g → X.kv.ownBlock ≠ some g) → RowsV (w'.setCell ⟨p, 4, none⟩ kv') (Grew F w w') t r cs := fun {t r cs} h1 h2 => by
    have h3 : RowsV w' F t r cs := h1.but hf (fun hr => hne (h1.bt hr) (by decide)) h2
    have h4 : RowsV w' (Grew F w w') t r cs := h3.wide (fun _ hk => .inl hk)
    exact h4.but hf2 (fun hr => hnp (h4.bt hr) (by decide)) (fun v hv g hg => by
      obtain ⟨j, hj⟩ := List.mem_iff_getElem?.1 hv
      have hjl : j < cs.length := by rw [← h4.len]; exact (List.getElem?_eq_some_iff.1 hj).1
      obtain ⟨u', q1, q2⟩ := h4.ch j _ (List.getElem?_eq_getElem hjl)
      rw [hj] at q1
      cases q1
      exact hnp (q2.2 g hg).2 (by decide))
  have hnk : ∀ {t r cs}, RowsV w F t r cs → (∀ v ∈ r, ∀ g, v.ownBlock = some g → X.kv.ownBlock ≠ some g) → ∀ v ∈ r, ∀ g, v.ownBlock = some g → kv'.ownBlock ≠ some g := fun {t r cs} h1 h2 v hv g hg e => by
    rcases ha g e with h3 | h3
    · exact h2 v hv g hg h3
    · obtain ⟨j, hj⟩ := List.mem_iff_getElem?.1 hv
      have hjl : j < cs.length := by rw [← h1.len]; exact (List.getElem?_eq_some_iff.1 hj).1
      obtain ⟨u', q1, q2⟩ := h1.ch j _ (List.getElem?_eq_getElem hjl)
      rw [hj] at q1
      cases q1
      have := (q2.2 g hg).2.lt
      omega
  refine ⟨?_, .inl h.fp, hrow h.row1 h.k1, hrow h.row2 h.k2, h.tt, ?_, ?_, fun g hg => ?_, fun g hg => .inl (h.fv g hg), hnk h.row1 h.k1, hnk h.row2 h.k2, hlt⟩
  · rw [heap_setCell_same w' p 4 _ _ kv' hp]
    rfl
  · rw [List.length_append]
    exact ow_fr hr hf2 (fun g hg => hnp (own_blk hr hg).2.2 (by decide))
  · have h5 := ow_fr h.vs hf (fun g hg => hne (own_blk h.vs hg).2.2 (by decide))
    exact ow_fr h5 hf2 (fun g hg => hnp (own_blk h5 hg).2.2 (by decide))
  · rcases ha g hg with h3 | h3
    · exact .inl (h.fk g h3)
    · exact .inr ⟨h3, (own_blk hr hg).2.1⟩
/-- a value more -/
theorem RefC.valued (h : RefC w B p F N K V X) (hB : B ≤ w.heap.size) {vv' : Value} {x : Int} (hr : w'.ownsRow B 3 1 vv' (V.length + 1) ((V ++ [x]).map (.int .i64))) (hg : w.grownBy w' X.vv.ownBlock) (ha : ∀ g, vv'.ownBlock = some g → X.vv.ownBlock = some g ∨ w.heap.size ≤ g) :
    RefC (w'.setCell ⟨p, 5, none⟩ vv') B p (Grew F w w') N K (V ++ [x]) { X with vv := vv' } := by
  have hf := Fr.of_grownBy hg
  have hs := hf.size
  have hne : ∀ {e : TypeId} {k : Nat}, BT e w k → e ≠ 3 → ¬ X.vv.ownBlock = some k := fun {e k} hk hne e2 => absurd rfl (hk.ne (own_blk h.vs e2).2.2 hne)
  have hp : w'.heap[p]? = some (rdO N.seed N.at_ X) := (hf.block p (h.lt p h.fp).2 (hne h.bp (by decide))).trans h.blk
  have hf2 := Fr.setCell w' ⟨p, 5, none⟩ vv'
  have hlt : ∀ k, Grew F w w' k → B ≤ k ∧ k < (w'.setCell ⟨p, 5, none⟩ vv').heap.size := fun k hk => by
    rw [World.size_setCell]
    rcases hk with hk | hk
    · exact ⟨(h.lt k hk).1, by have := (h.lt k hk).2; omega⟩
    · exact ⟨by omega, hk.2⟩
  have hbp : BT 119 w' p := ⟨_, hp⟩
  have hnp : ∀ {e : TypeId} {k : Nat}, BT e w' k → e ≠ 119 → ¬ k = p := fun hk hne e => absurd e (hk.ne hbp hne)
  have hrow : ∀ {t r cs}, RowsV w F t r cs → RowsV (w'.setCell ⟨p, 5, none⟩ vv') (Grew F w w') t r cs := fun {t r cs} h1 => by
    have hch : ∀ v ∈ r, ∀ g, v.ownBlock = some g → BT 9 w g := fun v hv g hg => by
      obtain ⟨j, hj⟩ := List.mem_iff_getElem?.1 hv
      have hjl : j < cs.length := by rw [← h1.len]; exact (List.getElem?_eq_some_iff.1 hj).1
      obtain ⟨u', q1, q2⟩ := h1.ch j _ (List.getElem?_eq_getElem hjl)
      rw [hj] at q1
      cases q1
      exact (q2.2 g hg).2
    have h3 : RowsV w' F t r cs := h1.but hf (fun hr => hne (h1.bt hr) (by decide)) (fun v hv g hg => hne (hch v hv g hg) (by decide))
    have h4 : RowsV w' (Grew F w w') t r cs := h3.wide (fun _ hk => .inl hk)
    exact h4.but hf2 (fun hr => hnp (h4.bt hr) (by decide)) (fun v hv g hg => hnp ((hch v hv g hg).fr hf (hne (hch v hv g hg) (by decide))) (by decide))
  refine ⟨?_, .inl h.fp, hrow h.row1, hrow h.row2, h.tt, ?_, ?_, fun g hg => .inl (h.fk g hg), fun g hg => ?_, h.k1, h.k2, hlt⟩
  · rw [heap_setCell_same w' p 5 _ _ vv' hp]
    rfl
  · have h5 := ow_fr h.ks hf (fun g hg => hne (own_blk h.ks hg).2.2 (by decide))
    exact ow_fr h5 hf2 (fun g hg => hnp (own_blk h5 hg).2.2 (by decide))
  · rw [List.length_append]
    exact ow_fr hr hf2 (fun g hg => hnp (own_blk hr hg).2.2 (by decide))
  · rcases ha g hg with h3 | h3
    · exact .inl (h.fv g h3)
    · exact .inr ⟨h3, (own_blk hr hg).2.1⟩
end
end Go.Proofs.Ytgomilodeaafdaa

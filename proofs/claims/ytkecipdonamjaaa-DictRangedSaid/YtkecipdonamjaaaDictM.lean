/- The table of package dict as plain data, with the blocks in which it lies, and how it reads from memory. No condition; no program. -/
import Derived.Test.YtkecipdonamjaaaRep
import Derived.Test.YtkecipdonamjaaaWord
import Derived.Deep.Quiet
namespace Go.Proofs.Ytkecipdonamjaaa
open Go.RowKit

/-- an entry: its block, its key, the cells of its value -/
structure E where
  b : Nat
  key : ByteArray
  val : List Value

/-- the bucket of a key among n -/
def slotOf (seed : UInt64) (n : Nat) (key : ByteArray) : Nat := (hash seed key.data.toList).toNat % n

/-- a dict: its seed, its two tables (each with its block), how far it has moved, how many keys there are -/
structure DM where
  seed : UInt64
  told : Nat
  old : List (List E)
  tyoung : Nat
  young : List (List E)
  at_ : Nat
  n : Nat

theorem str_beq (a b : ByteArray) : (a.toList == b.toList) = decide (a = b) := by
  rw [Go.ByteArray.toList_eq, Go.ByteArray.toList_eq, Bool.eq_iff_iff, beq_iff_eq, decide_eq_true_eq]
  constructor
  · intro h
    cases a; cases b
    simp only [ByteArray.mk.injEq] at h ⊢
    exact Array.toList_inj.1 h
  · rintro rfl; rfl
def ptr (b : Nat) : Value := .pointer (some ⟨b, 0, none⟩)
/-- the head of a chain that ends in tl -/
def hpT : List E → Value → Value
  | [], tl => tl
  | e :: _, _ => ptr e.b
def hp (c : List E) : Value := hpT c (.pointer none)
def entryObj (ET : TypeId) (e : E) (nx : Value) : Obj := .cells (.string e.key :: (e.val ++ [nx])).toArray ET (0, 0)
def chainT (ET : TypeId) : List E → Value → Hl
  | [], _ => []
  | e :: r, tl => (e.b, entryObj ET e (hpT r tl)) :: chainT ET r tl
def chainO (ET : TypeId) (c : List E) : Hl := chainT ET c (.pointer none)
def rowO (PT : TypeId) (cs : List (List E)) : Obj := .cells (cs.map hp).toArray PT (0, 0)
def chainsO (ET : TypeId) (cs : List (List E)) : Hl := cs.flatMap (chainO ET)
def tabO (ET PT : TypeId) (t : Nat) (cs : List (List E)) : Hl := if cs = [] then [] else (t, rowO PT cs) :: chainsO ET cs
def tv (t : Nat) (cs : List (List E)) : Value := if cs = [] then .slice none 0 0 else .slice (some ⟨t, 0, none⟩) cs.length cs.length
def fieldsO (DT : TypeId) (M : DM) : Obj := .cells #[.int .u64 (wd M.seed), tv M.told M.old, tv M.tyoung M.young, .int .i64 M.at_, .int .i64 M.n] DT (0, 0)
def dictO (ET PT DT : TypeId) (d : Nat) (M : DM) : Hl := (d, fieldsO DT M) :: (tabO ET PT M.told M.old ++ tabO ET PT M.tyoung M.young)

section
variable {ET PT : TypeId}
theorem chainT_append (a b : List E) (tl : Value) : chainT ET (a ++ b) tl = chainT ET a (hpT b tl) ++ chainT ET b tl := by
  induction a with
  | nil => rfl
  | cons e a ih =>
    have : hpT (a ++ b) tl = hpT a (hpT b tl) := by cases a <;> rfl
    simp [chainT, ih, this]
theorem chainO_mid (a : List E) (e : E) (b : List E) : chainO ET (a ++ e :: b) = chainT ET a (ptr e.b) ++ (e.b, entryObj ET e (hp b)) :: chainO ET b := by
  simp [chainO, chainT_append, chainT, hpT, hp]
theorem hp_append (a : List E) (e : E) (b : List E) : hp (a ++ e :: b) = hpT a (ptr e.b) := by cases a <;> rfl
theorem chainT_bs (c : List E) (tl tl' : Value) : (chainT ET c tl).map (·.1) = (chainT ET c tl').map (·.1) := by
  induction c with
  | nil => rfl
  | cons e c ih => simp [chainT, ih]
theorem chainT_blocks (c : List E) (tl : Value) : (chainT ET c tl).map (·.1) = c.map E.b := by
  induction c with
  | nil => rfl
  | cons e c ih => simp [chainT, ih]
theorem chainsO_append (a b : List (List E)) : chainsO ET (a ++ b) = chainsO ET a ++ chainsO ET b := by simp [chainsO]
theorem chainsO_cons (c : List E) (b : List (List E)) : chainsO ET (c :: b) = chainO ET c ++ chainsO ET b := by simp [chainsO]
theorem chainsO_split (cs : List (List E)) (i : Nat) (h : i < cs.length) : chainsO ET cs = chainsO ET (cs.take i) ++ (chainO ET cs[i] ++ chainsO ET (cs.drop (i + 1))) := by
  conv => lhs; rw [← List.take_append_drop i cs, List.drop_eq_getElem_cons h]
  rw [chainsO_append, chainsO_cons]
theorem chainsO_set (cs : List (List E)) (i : Nat) (h : i < cs.length) (c : List E) : chainsO ET (cs.set i c) = chainsO ET (cs.take i) ++ (chainO ET c ++ chainsO ET (cs.drop (i + 1))) := by
  rw [List.set_eq_take_append_cons_drop, if_pos h, chainsO_append, chainsO_cons]
/-- a chain is laid aside -/
theorem chainsO_perm (cs : List (List E)) (i : Nat) (h : i < cs.length) : (chainsO ET cs).Perm (chainO ET cs[i] ++ chainsO ET (cs.set i [])) := by
  rw [chainsO_split cs i h, chainsO_set cs i h]
  have : chainO ET ([] : List E) = [] := rfl
  rw [this, List.nil_append]
  exact List.perm_append_comm_assoc _ _ _
theorem chainsO_perm_set (cs : List (List E)) (i : Nat) (h : i < cs.length) (c : List E) : (chainsO ET (cs.set i c)).Perm (chainO ET c ++ chainsO ET (cs.set i [])) := by
  have := chainsO_perm (ET := ET) (cs.set i c) i (by simpa using h)
  simpa using this
theorem tabO_of {t : Nat} {cs : List (List E)} (h : cs ≠ []) : tabO ET PT t cs = (t, rowO PT cs) :: chainsO ET cs := by simp [tabO, h]
theorem tv_of {t : Nat} {cs : List (List E)} (h : cs ≠ []) : tv t cs = .slice (some ⟨t, 0, none⟩) cs.length cs.length := by simp [tv, h]
theorem tabO_nil {t : Nat} : tabO ET PT t [] = [] := by simp [tabO]
theorem tv_nil {t : Nat} : tv t [] = .slice none 0 0 := by simp [tv]
theorem rowO_set (cs : List (List E)) (i : Nat) (c : List E) : ((cs.map hp).toArray.setIfInBounds i (hp c)) = ((cs.set i c).map hp).toArray := by simp [List.map_set]
theorem entryObj_set (e : E) (nx v : Value) : (Value.string e.key :: (e.val ++ [nx])).toArray.setIfInBounds (1 + e.val.length) v = (Value.string e.key :: (e.val ++ [v])).toArray := by
  rw [Nat.add_comm 1]
  simp
theorem perm3 (A C : Hl) (X T : Nat × Obj) : (A ++ (X :: T :: C)).Perm (X :: T :: (A ++ C)) := List.perm_middle.trans ((List.perm_middle).cons X)
/-- what hanging an entry makes of memory -/
theorem hang_rep {w : World} {A : Hl} {x : E} {nx : Value} {Y : List (List E)} {t i : Nat} {c : List E} (h : Rep w (A ++ ((x.b, entryObj ET x nx) :: (t, rowO PT Y) :: chainsO ET Y)))
    (nd : Nd (A ++ ((x.b, entryObj ET x nx) :: (t, rowO PT Y) :: chainsO ET Y))) (hc : Y[i]? = some c) :
    Rep ((w.setCell ⟨x.b, 1 + x.val.length, none⟩ (hp c)).setCell ⟨t, i, none⟩ (.pointer (some ⟨x.b, 0, none⟩))) (A ++ ((t, rowO PT (Y.set i (x :: c))) :: chainsO ET (Y.set i (x :: c)))) ∧
      Nd (A ++ ((t, rowO PT (Y.set i (x :: c))) :: chainsO ET (Y.set i (x :: c)))) ∧
      ∀ k, Bs (A ++ ((t, rowO PT (Y.set i (x :: c))) :: chainsO ET (Y.set i (x :: c)))) k ↔ Bs (A ++ ((x.b, entryObj ET x nx) :: (t, rowO PT Y) :: chainsO ET Y)) k := by
  obtain ⟨hlt, hc'⟩ := List.getElem?_eq_some_iff.1 hc
  have p1 := perm3 A (chainsO ET Y) (x.b, entryObj ET x nx) (t, rowO PT Y)
  have h1 := h.perm p1
  have n1 := nd.perm p1
  obtain ⟨nx1, n2⟩ := Nd.cons_iff.1 n1
  obtain ⟨nt, n3⟩ := Nd.cons_iff.1 n2
  rw [Bs.cons_iff] at nx1
  have nx2 : ¬ x.b = t := fun e => nx1 (.inl e)
  have nx3 : ¬ Bs (A ++ chainsO ET Y) x.b := fun e => nx1 (.inr e)
  have s1 := h1.setHead (1 + x.val.length) (hp c) (by rw [Bs.cons_iff]; exact nx1)
  rw [entryObj_set] at s1
  have s2 := (s1.perm (List.Perm.swap (t, rowO PT Y) (x.b, entryObj ET x (hp c)) (A ++ chainsO ET Y))).setHead i (hp (x :: c)) (by rw [Bs.cons_iff]; exact fun e => e.elim (fun e => nx2 e.symm) nt)
  rw [rowO_set] at s2
  have hC : (chainsO ET (Y.set i (x :: c))).Perm ((x.b, entryObj ET x (hp c)) :: chainsO ET Y) := by
    refine (chainsO_perm_set Y i hlt (x :: c)).trans ?_
    have e1 : chainO ET (x :: c) = (x.b, entryObj ET x (hp c)) :: chainO ET c := rfl
    rw [e1, List.cons_append]
    refine List.Perm.cons _ ?_
    have := chainsO_perm (ET := ET) Y i hlt
    rw [hc'] at this
    exact this.symm
  have pf : (A ++ ((t, rowO PT (Y.set i (x :: c))) :: chainsO ET (Y.set i (x :: c)))).Perm ((t, rowO PT (Y.set i (x :: c))) :: (x.b, entryObj ET x (hp c)) :: (A ++ chainsO ET Y)) := by
    refine List.perm_middle.trans (List.Perm.cons _ ?_)
    exact (hC.append_left A).trans List.perm_middle
  refine ⟨s2.perm pf.symm, ?_, fun k => ?_⟩
  · refine Nd.perm ?_ pf.symm
    rw [Nd.cons_iff, Nd.cons_iff, Bs.cons_iff]
    exact ⟨fun e => e.elim (fun e => nx2 e.symm) nt, nx3, n3⟩
  · rw [Bs.perm pf, Bs.perm p1, Bs.cons_iff, Bs.cons_iff, Bs.cons_iff, Bs.cons_iff]
    constructor
    · rintro (h | h | h)
      · exact .inr (.inl h)
      · exact .inl h
      · exact .inr (.inr h)
    · rintro (h | h | h)
      · exact .inr (.inl h)
      · exact .inl h
      · exact .inr (.inr h)
theorem Fr.drewN (S : Nat → Prop) (w : World) (n : Nat) : Fr S w (w.drewN n) := ⟨rfl, rfl, rfl, Nat.le_refl _, fun _ _ _ => rfl⟩
theorem Rep.drewN {w : World} {L : Hl} (h : Rep w L) (n : Nat) : Rep (w.drewN n) L := h.fr (Fr.drewN (fun _ => False) w n) (fun _ _ hk => hk)
section
variable {DT : TypeId} {w : World} {d : Nat} {M : DM}
theorem dict_row_old (h : Rep w (dictO ET PT DT d M)) (hne : M.old ≠ []) : w.heap[M.told]? = some (rowO PT M.old) ∧ Rep w (chainsO ET M.old) := by
  have h1 := h.tail.left
  rw [tabO_of hne] at h1
  exact ⟨h1.head, h1.tail⟩
theorem dict_row_young (h : Rep w (dictO ET PT DT d M)) (hne : M.young ≠ []) : w.heap[M.tyoung]? = some (rowO PT M.young) ∧ Rep w (chainsO ET M.young) := by
  have h1 := h.tail.right
  rw [tabO_of hne] at h1
  exact ⟨h1.head, h1.tail⟩
theorem dict_end (h : Rep w (dictO ET PT DT d M)) (nd : Nd (dictO ET PT DT d M)) :
    Rep (((w.setCell ⟨d, 1, none⟩ (tv M.tyoung M.young)).setCell ⟨d, 2, none⟩ (.slice none 0 0)).setCell ⟨d, 3, none⟩ (.int .i64 0)) (dictO ET PT DT d { M with told := M.tyoung, old := M.young, young := [], at_ := 0 }) ∧
      Nd (dictO ET PT DT d { M with told := M.tyoung, old := M.young, young := [], at_ := 0 }) := by
  obtain ⟨hn1, hn2⟩ := Nd.cons_iff.1 nd
  have h1 := Rep.setHead (cs := #[.int .u64 (wd M.seed), tv M.told M.old, tv M.tyoung M.young, .int .i64 M.at_, .int .i64 M.n]) h 1 (tv M.tyoung M.young) hn1
  have h2 := Rep.setHead h1 2 (.slice none 0 0) hn1
  have h3 := Rep.setHead h2 3 (.int .i64 0) hn1
  obtain ⟨_, hn3, _⟩ := Nd.append_iff.1 hn2
  have e : dictO ET PT DT d { M with told := M.tyoung, old := M.young, young := [], at_ := 0 } = (d, fieldsO DT { M with told := M.tyoung, old := M.young, young := [], at_ := 0 }) :: tabO ET PT M.tyoung M.young := by
    simp [dictO, tabO_nil]
  rw [e]
  refine ⟨Rep.cons ?_ h3.tail.right, Nd.cons_iff.2 ⟨fun hb => hn1 (Bs.append_iff.2 (.inr hb)), hn3⟩⟩
  rw [h3.head]
  simp [fieldsO, tv_nil]
theorem tv_len (t : Nat) (a b : List (List E)) (h : a.length = b.length) : tv t a = tv t b := by
  by_cases ha : a = []
  · subst ha
    have : b = [] := List.length_eq_zero_iff.1 h.symm
    rw [this]
  · have hb : b ≠ [] := by intro e; rw [e] at h; exact ha (List.length_eq_zero_iff.1 h)
    rw [tv_of ha, tv_of hb, h]
theorem dict_moved {a : Nat} {Y : List (List E)} (hol : M.old ≠ []) (hy : M.young ≠ []) (hYl : Y.length = M.young.length)
    (R : Rep w ((d, fieldsO DT { M with at_ := a }) :: (M.told, rowO PT M.old) :: (chainsO ET (M.old.set a []) ++ ((M.tyoung, rowO PT Y) :: chainsO ET Y))))
    (N : Nd ((d, fieldsO DT { M with at_ := a }) :: (M.told, rowO PT M.old) :: (chainsO ET (M.old.set a []) ++ ((M.tyoung, rowO PT Y) :: chainsO ET Y)))) :
    Rep (w.setCell ⟨M.told, a, none⟩ (.pointer none)) (dictO ET PT DT d { M with old := M.old.set a [], young := Y, at_ := a }) ∧ Nd (dictO ET PT DT d { M with old := M.old.set a [], young := Y, at_ := a }) := by
  have hsn : M.old.set a [] ≠ [] := by intro e; exact hol (by simpa using e)
  have hyn : Y ≠ [] := by intro e; rw [e] at hYl; exact hy (List.length_eq_zero_iff.1 hYl.symm)
  have hf : fieldsO DT { M with at_ := a } = fieldsO DT { M with old := M.old.set a [], young := Y, at_ := a } := by
    unfold fieldsO
    simp only
    rw [tv_len M.told M.old (M.old.set a []) (by simp), tv_len M.tyoung M.young Y hYl.symm]
  have e : dictO ET PT DT d { M with old := M.old.set a [], young := Y, at_ := a } = (d, fieldsO DT { M with at_ := a }) :: (M.told, rowO PT (M.old.set a [])) :: (chainsO ET (M.old.set a []) ++ ((M.tyoung, rowO PT Y) :: chainsO ET Y)) := by
    unfold dictO
    simp only
    rw [tabO_of hsn, tabO_of hyn, hf]; rfl
  rw [e]
  have R1 := R.perm (List.Perm.swap _ _ _)
  have N1 := N.perm (List.Perm.swap _ _ _)
  have R2 := Rep.setHead (cs := (M.old.map hp).toArray) R1 a (hp []) (Nd.cons_iff.1 N1).1
  rw [rowO_set] at R2
  refine ⟨R2.perm (List.Perm.swap _ _ _), ?_⟩
  exact N
theorem dict_at (h : Rep w (dictO ET PT DT d M)) (nd : Nd (dictO ET PT DT d M)) (a : Nat) : Rep (w.setCell ⟨d, 3, none⟩ (.int .i64 (a : Int))) (dictO ET PT DT d { M with at_ := a }) :=
  Rep.setHead (cs := #[.int .u64 (wd M.seed), tv M.told M.old, tv M.tyoung M.young, .int .i64 M.at_, .int .i64 M.n]) h 3 _ (Nd.cons_iff.1 nd).1
theorem dict_n (h : Rep w (dictO ET PT DT d M)) (nd : Nd (dictO ET PT DT d M)) (n : Nat) : Rep (w.setCell ⟨d, 4, none⟩ (.int .i64 (n : Int))) (dictO ET PT DT d { M with n := n }) :=
  Rep.setHead (cs := #[.int .u64 (wd M.seed), tv M.told M.old, tv M.tyoung M.young, .int .i64 M.at_, .int .i64 M.n]) h 4 _ (Nd.cons_iff.1 nd).1
end
/-- one entry of a table laid aside -/
theorem chains_entry (cs : List (List E)) (i : Nat) (pre post : List E) (e : E) (h : cs[i]? = some (pre ++ e :: post)) :
    (chainsO ET cs).Perm ((e.b, entryObj ET e (hp post)) :: (chainT ET pre (ptr e.b) ++ (chainO ET post ++ chainsO ET (cs.set i [])))) := by
  obtain ⟨hi, hc⟩ := List.getElem?_eq_some_iff.1 h
  refine (chainsO_perm cs i hi).trans ?_
  rw [hc, chainO_mid, List.append_assoc, List.cons_append]
  exact List.perm_middle
theorem chains_set_entry (cs : List (List E)) (i : Nat) (hi : i < cs.length) (pre post : List E) (e : E) :
    (chainsO ET (cs.set i (pre ++ e :: post))).Perm ((e.b, entryObj ET e (hp post)) :: (chainT ET pre (ptr e.b) ++ (chainO ET post ++ chainsO ET (cs.set i [])))) := by
  have := chains_entry (ET := ET) (cs.set i (pre ++ e :: post)) i pre post e (by simp [hi])
  simpa using this
theorem rowO_same (cs : List (List E)) (i : Nat) (c c' : List E) (h : cs[i]? = some c) (hh : hp c' = hp c) : rowO PT (cs.set i c') = rowO PT cs := by
  obtain ⟨hi, hc⟩ := List.getElem?_eq_some_iff.1 h
  unfold rowO
  congr 2
  apply List.ext_getElem?
  intro j
  rw [List.getElem?_map, List.getElem?_map, List.getElem?_set]
  by_cases hj : i = j
  · subst hj; rw [if_pos rfl, if_pos hi, h]; simp [hh]
  · rw [if_neg hj]
/-- a store into one cell of an entry's value -/
theorem tab_val {w : World} {A : Hl} {t : Nat} {cs : List (List E)} {i : Nat} {pre post : List E} {e : E} (R : Rep w (A ++ ((t, rowO PT cs) :: chainsO ET cs))) (N : Nd (A ++ ((t, rowO PT cs) :: chainsO ET cs)))
    (h : cs[i]? = some (pre ++ e :: post)) (k : Nat) (v : Value) (hk : k < e.val.length) :
    Rep (w.setCell ⟨e.b, 1 + k, none⟩ v) (A ++ ((t, rowO PT (cs.set i (pre ++ { e with val := e.val.set k v } :: post))) :: chainsO ET (cs.set i (pre ++ { e with val := e.val.set k v } :: post)))) ∧
      Nd (A ++ ((t, rowO PT (cs.set i (pre ++ { e with val := e.val.set k v } :: post))) :: chainsO ET (cs.set i (pre ++ { e with val := e.val.set k v } :: post)))) := by
  obtain ⟨hi, hc⟩ := List.getElem?_eq_some_iff.1 h
  have hrow : rowO PT (cs.set i (pre ++ { e with val := e.val.set k v } :: post)) = rowO PT cs := rowO_same cs i _ _ h (by rw [hp_append, hp_append])
  rw [hrow]
  have p1 : (A ++ ((t, rowO PT cs) :: chainsO ET cs)).Perm ((e.b, entryObj ET e (hp post)) :: (A ++ ((t, rowO PT cs) :: (chainT ET pre (ptr e.b) ++ (chainO ET post ++ chainsO ET (cs.set i [])))))) :=
    ((((chains_entry cs i pre post e h).cons _).append_left A).trans ((List.Perm.swap _ _ _).append_left A)).trans List.perm_middle
  have p2 : (A ++ ((t, rowO PT cs) :: chainsO ET (cs.set i (pre ++ { e with val := e.val.set k v } :: post)))).Perm ((e.b, entryObj ET { e with val := e.val.set k v } (hp post)) :: (A ++ ((t, rowO PT cs) :: (chainT ET pre (ptr e.b) ++ (chainO ET post ++ chainsO ET (cs.set i [])))))) :=
    ((((chains_set_entry cs i hi pre post { e with val := e.val.set k v }).cons _).append_left A).trans ((List.Perm.swap _ _ _).append_left A)).trans List.perm_middle
  have N1 := N.perm p1
  have R1 := Rep.setHead (R.perm p1) (1 + k) v (Nd.cons_iff.1 N1).1
  have hent : Obj.cells ((Value.string e.key :: (e.val ++ [hp post])).toArray.setIfInBounds (1 + k) v) ET (0, 0) = entryObj ET { e with val := e.val.set k v } (hp post) := by
    unfold entryObj
    rw [Nat.add_comm 1]
    simp [List.set_append, hk]
  rw [hent] at R1
  exact ⟨R1.perm p2.symm, Nd.perm (Nd.cons_iff.2 (Nd.cons_iff.1 N1)) p2.symm⟩
/-- where the link to what stands behind 'pre' hangs -/
def linkAt (t i : Nat) (pre : List E) : Addr := match pre.getLast? with
  | none => ⟨t, i, none⟩
  | some q => ⟨q.b, 1 + q.val.length, none⟩
/-- an entry is unlinked: one store -/
theorem tab_del {w : World} {A : Hl} {t : Nat} {cs : List (List E)} {i : Nat} {pre post : List E} {e : E} (R : Rep w (A ++ ((t, rowO PT cs) :: chainsO ET cs))) (N : Nd (A ++ ((t, rowO PT cs) :: chainsO ET cs)))
    (h : cs[i]? = some (pre ++ e :: post)) :
    Rep (w.setCell (linkAt t i pre) (hp post)) (A ++ ((t, rowO PT (cs.set i (pre ++ post))) :: chainsO ET (cs.set i (pre ++ post)))) ∧
      Nd (A ++ ((t, rowO PT (cs.set i (pre ++ post))) :: chainsO ET (cs.set i (pre ++ post)))) ∧
      (∀ k, Bs (A ++ ((t, rowO PT (cs.set i (pre ++ post))) :: chainsO ET (cs.set i (pre ++ post)))) k → Bs (A ++ ((t, rowO PT cs) :: chainsO ET cs)) k) ∧ Bs (A ++ ((t, rowO PT cs) :: chainsO ET cs)) (linkAt t i pre).block := by
  obtain ⟨hi, hc⟩ := List.getElem?_eq_some_iff.1 h
  have p1 : (A ++ ((t, rowO PT cs) :: chainsO ET cs)).Perm ((e.b, entryObj ET e (hp post)) :: (A ++ ((t, rowO PT cs) :: (chainT ET pre (ptr e.b) ++ (chainO ET post ++ chainsO ET (cs.set i [])))))) :=
    ((((chains_entry cs i pre post e h).cons _).append_left A).trans ((List.Perm.swap _ _ _).append_left A)).trans List.perm_middle
  have N1 := (Nd.cons_iff.1 (N.perm p1)).2
  have R1 := (R.perm p1).tail
  have hsub : ∀ k, Bs (A ++ ((t, rowO PT cs) :: (chainT ET pre (ptr e.b) ++ (chainO ET post ++ chainsO ET (cs.set i []))))) k → Bs (A ++ ((t, rowO PT cs) :: chainsO ET cs)) k := fun k hk => (Bs.perm p1).2 (Bs.cons_iff.2 (.inr hk))
  have hch : (chainsO ET (cs.set i (pre ++ post))).Perm (chainT ET pre (hp post) ++ (chainO ET post ++ chainsO ET (cs.set i []))) := by
    refine (chainsO_perm_set cs i hi (pre ++ post)).trans ?_
    rw [show chainO ET (pre ++ post) = chainT ET pre (hp post) ++ chainO ET post from chainT_append pre post _, List.append_assoc]
  have p2 := ((hch.cons (t, rowO PT (cs.set i (pre ++ post)))).append_left A)
  have key : ∃ L', (A ++ ((t, rowO PT (cs.set i (pre ++ post))) :: (chainT ET pre (hp post) ++ (chainO ET post ++ chainsO ET (cs.set i []))))).Perm L' ∧ Rep (w.setCell (linkAt t i pre) (hp post)) L' ∧ Nd L' ∧
      (∀ k, Bs L' k → Bs (A ++ ((t, rowO PT cs) :: (chainT ET pre (ptr e.b) ++ (chainO ET post ++ chainsO ET (cs.set i []))))) k) ∧ Bs (A ++ ((t, rowO PT cs) :: (chainT ET pre (ptr e.b) ++ (chainO ET post ++ chainsO ET (cs.set i []))))) (linkAt t i pre).block := by
    cases hl : pre.getLast? with
    | none =>
      have hpre : pre = [] := by simpa using hl
      subst hpre
      have q1 : (A ++ ((t, rowO PT cs) :: (chainT ET ([] : List E) (ptr e.b) ++ (chainO ET post ++ chainsO ET (cs.set i []))))).Perm ((t, rowO PT cs) :: (A ++ (chainO ET post ++ chainsO ET (cs.set i [])))) := List.perm_middle
      have N2 := N1.perm q1
      have R2 := Rep.setHead (R1.perm q1) i (hp post) (Nd.cons_iff.1 N2).1
      rw [rowO_set] at R2
      refine ⟨_, List.perm_middle, R2, N2, fun k hk => (Bs.perm q1).2 hk, ?_⟩
      rw [Bs.perm q1]
      exact Bs.cons_iff.2 (.inl rfl)
    | some q =>
      obtain ⟨pre', rfl⟩ := List.getLast?_eq_some_iff.1 hl
      have e1 : ∀ tl, chainT ET (pre' ++ [q]) tl = chainT ET pre' (ptr q.b) ++ [(q.b, entryObj ET q tl)] := fun tl => by rw [chainT_append]; rfl
      have hrow : rowO PT (cs.set i (pre' ++ [q] ++ post)) = rowO PT cs := rowO_same cs i _ _ h (by rw [List.append_assoc, List.append_assoc]; show hp (pre' ++ q :: post) = hp (pre' ++ q :: (e :: post)); rw [hp_append, hp_append])
      rw [hrow]
      have q1 : ∀ tl, (A ++ ((t, rowO PT cs) :: (chainT ET (pre' ++ [q]) tl ++ (chainO ET post ++ chainsO ET (cs.set i []))))).Perm ((q.b, entryObj ET q tl) :: (A ++ ((t, rowO PT cs) :: (chainT ET pre' (ptr q.b) ++ (chainO ET post ++ chainsO ET (cs.set i [])))))) := fun tl => by
        rw [e1, List.append_assoc]
        exact (((List.perm_middle (a := (q.b, entryObj ET q tl)) (l₁ := chainT ET pre' (ptr q.b)) (l₂ := chainO ET post ++ chainsO ET (cs.set i []))).cons (t, rowO PT cs)).append_left A |>.trans ((List.Perm.swap _ _ _).append_left A)).trans List.perm_middle
      have N2 := N1.perm (q1 _)
      have R2 := Rep.setHead (R1.perm (q1 _)) (1 + q.val.length) (hp post) (Nd.cons_iff.1 N2).1
      rw [entryObj_set] at R2
      refine ⟨_, q1 (hp post), by unfold linkAt; rw [hl]; exact R2, N2, fun k hk => (Bs.perm (q1 (ptr e.b))).2 hk, ?_⟩
      rw [Bs.perm (q1 (ptr e.b))]
      unfold linkAt; rw [hl]
      exact Bs.cons_iff.2 (.inl rfl)
  obtain ⟨L', q1, hR, hN, hB, hb⟩ := key
  have q2 := p2.trans q1
  exact ⟨hR.perm q2.symm, hN.perm q2.symm, fun k hk => hsub k (hB k ((Bs.perm q2).1 hk)), hsub _ hb⟩
theorem row_cell {w : World} {t : Nat} {cs : List (List E)} (h : w.heap[t]? = some (rowO PT cs)) (i : Nat) (hi : i < cs.length) : w.cell? ⟨t, i, none⟩ = some (hp cs[i]) := by
  rw [cell_of_blk h]; simp [hi]
end
end Go.Proofs.Ytkecipdonamjaaa

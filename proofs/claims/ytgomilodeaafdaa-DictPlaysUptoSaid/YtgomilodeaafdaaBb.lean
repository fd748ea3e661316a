/- A table in plain words; what a scan tells. No condition. -/
import Derived.Test.YtgomilodeaafdaaBa
import Derived.Deep.Quiet
import Derived.Deep.RegionHeld3
import Derived.Deep.RegionLaw
import Derived.ChangeSame
namespace Go.Proofs.Ytgomilodeaafdaa
open Go.RowKit

/-- an entry: its block, its key, the cells of its value -/
structure E where
  b : Nat
  key : ByteArray
  val : List Value

/-- the bucket of a key among n -/
def slotOf (seed : UInt64) (n : Nat) (key : ByteArray) : Nat := (hash seed key.data.toList).toNat % n

/-- a dict: its seed, its two tables (each with its block), how far it has moved, how many keys there are -/
structure DM where
  seed : UInt64
  told : Nat
  old : List (List E)
  tyoung : Nat
  young : List (List E)
  at_ : Nat
  n : Nat

theorem str_beq (a b : ByteArray) : (a.toList == b.toList) = decide (a = b) := by
  rw [Go.ByteArray.toList_eq, Go.ByteArray.toList_eq, Bool.eq_iff_iff, beq_iff_eq, decide_eq_true_eq]
  constructor
  · intro h
    cases a; cases b
    simp only [ByteArray.mk.injEq] at h ⊢
    exact Array.toList_inj.1 h
  · rintro rfl; rfl
def ptr (b : Nat) : Value := .pointer (some ⟨b, 0, none⟩)
/-- the head of a chain that ends in tl -/
def hpT : List E → Value → Value
  | [], tl => tl
  | e :: _, _ => ptr e.b
def hp (c : List E) : Value := hpT c (.pointer none)
def entryObj (ET : TypeId) (e : E) (nx : Value) : Obj := .cells (.string e.key :: (e.val ++ [nx])).toArray ET (0, 0)
def chainT (ET : TypeId) : List E → Value → Hl
  | [], _ => []
  | e :: r, tl => (e.b, entryObj ET e (hpT r tl)) :: chainT ET r tl
def chainO (ET : TypeId) (c : List E) : Hl := chainT ET c (.pointer none)
def rowO (PT : TypeId) (cs : List (List E)) : Obj := .cells (cs.map hp).toArray PT (0, 0)
def chainsO (ET : TypeId) (cs : List (List E)) : Hl := cs.flatMap (chainO ET)
def tabO (ET PT : TypeId) (t : Nat) (cs : List (List E)) : Hl := if cs = [] then [] else (t, rowO PT cs) :: chainsO ET cs
def tv (t : Nat) (cs : List (List E)) : Value := if cs = [] then .slice none 0 0 else .slice (some ⟨t, 0, none⟩) cs.length cs.length
def fieldsO (DT : TypeId) (M : DM) : Obj := .cells #[.int .u64 (wd M.seed), tv M.told M.old, tv M.tyoung M.young, .int .i64 M.at_, .int .i64 M.n] DT (0, 0)
def dictO (ET PT DT : TypeId) (d : Nat) (M : DM) : Hl := (d, fieldsO DT M) :: (tabO ET PT M.told M.old ++ tabO ET PT M.tyoung M.young)

section
variable {ET PT : TypeId}
theorem chainT_append (a b : List E) (tl : Value) : chainT ET (a ++ b) tl = chainT ET a (hpT b tl) ++ chainT ET b tl := by
  induction a with
  | nil => rfl
  | cons e a ih =>
    have : hpT (a ++ b) tl = hpT a (hpT b tl) := by cases a <;> rfl
    simp [chainT, ih, this]
theorem chainO_mid (a : List E) (e : E) (b : List E) : chainO ET (a ++ e :: b) = chainT ET a (ptr e.b) ++ (e.b, entryObj ET e (hp b)) :: chainO ET b := by
  simp [chainO, chainT_append, chainT, hpT, hp]
theorem hp_append (a : List E) (e : E) (b : List E) : hp (a ++ e :: b) = hpT a (ptr e.b) := by cases a <;> rfl
theorem chainT_bs (c : List E) (tl tl' : Value) : (chainT ET c tl).map (·.1) = (chainT ET c tl').map (·.1) := by
  induction c with
  | nil => rfl
  | cons e c ih => simp [chainT, ih]
theorem chainT_blocks (c : List E) (tl : Value) : (chainT ET c tl).map (·.1) = c.map E.b := by
  induction c with
  | nil => rfl
  | cons e c ih => simp [chainT, ih]
theorem chainsO_append (a b : List (List E)) : chainsO ET (a ++ b) = chainsO ET a ++ chainsO ET b := by simp [chainsO]
theorem chainsO_cons (c : List E) (b : List (List E)) : chainsO ET (c :: b) = chainO ET c ++ chainsO ET b := by simp [chainsO]
theorem chainsO_split (cs : List (List E)) (i : Nat) (h : i < cs.length) : chainsO ET cs = chainsO ET (cs.take i) ++ (chainO ET cs[i] ++ chainsO ET (cs.drop (i + 1))) := by
  conv => lhs; rw [← List.take_append_drop i cs, List.drop_eq_getElem_cons h]
  rw [chainsO_append, chainsO_cons]
theorem chainsO_set (cs : List (List E)) (i : Nat) (h : i < cs.length) (c : List E) : chainsO ET (cs.set i c) = chainsO ET (cs.take i) ++ (chainO ET c ++ chainsO ET (cs.drop (i + 1))) := by
  rw [List.set_eq_take_append_cons_drop, if_pos h, chainsO_append, chainsO_cons]
/-- a chain is laid aside -/
theorem chainsO_perm (cs : List (List E)) (i : Nat) (h : i < cs.length) : (chainsO ET cs).Perm (chainO ET cs[i] ++ chainsO ET (cs.set i [])) := by
  rw [chainsO_split cs i h, chainsO_set cs i h]
  have : chainO ET ([] : List E) = [] := rfl
  rw [this, List.nil_append]
  exact List.perm_append_comm_assoc _ _ _
theorem chainsO_perm_set (cs : List (List E)) (i : Nat) (h : i < cs.length) (c : List E) : (chainsO ET (cs.set i c)).Perm (chainO ET c ++ chainsO ET (cs.set i [])) := by
  have := chainsO_perm (ET := ET) (cs.set i c) i (by simpa using h)
  simpa using this
theorem tabO_of {t : Nat} {cs : List (List E)} (h : cs ≠ []) : tabO ET PT t cs = (t, rowO PT cs) :: chainsO ET cs := by simp [tabO, h]
theorem tv_of {t : Nat} {cs : List (List E)} (h : cs ≠ []) : tv t cs = .slice (some ⟨t, 0, none⟩) cs.length cs.length := by simp [tv, h]
theorem tabO_nil {t : Nat} : tabO ET PT t [] = [] := by simp [tabO]
theorem tv_nil {t : Nat} : tv t [] = .slice none 0 0 := by simp [tv]
theorem rowO_set (cs : List (List E)) (i : Nat) (c : List E) : ((cs.map hp).toArray.setIfInBounds i (hp c)) = ((cs.set i c).map hp).toArray := by simp [List.map_set]
theorem entryObj_set (e : E) (nx v : Value) : (Value.string e.key :: (e.val ++ [nx])).toArray.setIfInBounds (1 + e.val.length) v = (Value.string e.key :: (e.val ++ [v])).toArray := by
  rw [Nat.add_comm 1]
  simp
theorem perm3 (A C : Hl) (X T : Nat × Obj) : (A ++ (X :: T :: C)).Perm (X :: T :: (A ++ C)) := List.perm_middle.trans ((List.perm_middle).cons X)
/-- what hanging an entry makes of memory -/
theorem hang_rep {w : World} {A : Hl} {x : E} {nx : Value} {Y : List (List E)} {t i : Nat} {c : List E} (h : Rep w (A ++ ((x.b, entryObj ET x nx) :: (t, rowO PT Y) :: chainsO ET Y)))
    (nd : Nd (A ++ ((x.b, entryObj ET x nx) :: (t, rowO PT Y) :: chainsO ET Y))) (hc : Y[i]? = some c) :
    Rep ((w.setCell ⟨x.b, 1 + x.val.length, none⟩ (hp c)).setCell ⟨t, i, none⟩ (.pointer (some ⟨x.b, 0, none⟩))) (A ++ ((t, rowO PT (Y.set i (x :: c))) :: chainsO ET (Y.set i (x :: c)))) ∧
      Nd (A ++ ((t, rowO PT (Y.set i (x :: c))) :: chainsO ET (Y.set i (x :: c)))) ∧
      ∀ k, Bs (A ++ ((t, rowO PT (Y.set i (x :: c))) :: chainsO ET (Y.set i (x :: c)))) k ↔ Bs (A ++ ((x.b, entryObj ET x nx) :: (t, rowO PT Y) :: chainsO ET Y)) k := by
  obtain ⟨hlt, hc'⟩ := List.getElem?_eq_some_iff.1 hc
  have p1 := perm3 A (chainsO ET Y) (x.b, entryObj ET x nx) (t, rowO PT Y)
  have h1 := h.perm p1
  have n1 := nd.perm p1
  obtain ⟨nx1, n2⟩ := Nd.cons_iff.1 n1
  obtain ⟨nt, n3⟩ := Nd.cons_iff.1 n2
  rw [Bs.cons_iff] at nx1
  have nx2 : ¬ x.b = t := fun e => nx1 (.inl e)
  have nx3 : ¬ Bs (A ++ chainsO ET Y) x.b := fun e => nx1 (.inr e)
  have s1 := h1.setHead (1 + x.val.length) (hp c) (by rw [Bs.cons_iff]; exact nx1)
  rw [entryObj_set] at s1
  have s2 := (s1.perm (List.Perm.swap (t, rowO PT Y) (x.b, entryObj ET x (hp c)) (A ++ chainsO ET Y))).setHead i (hp (x :: c)) (by rw [Bs.cons_iff]; exact fun e => e.elim (fun e => nx2 e.symm) nt)
  rw [rowO_set] at s2
  have hC : (chainsO ET (Y.set i (x :: c))).Perm ((x.b, entryObj ET x (hp c)) :: chainsO ET Y) := by
    refine (chainsO_perm_set Y i hlt (x :: c)).trans ?_
    have e1 : chainO ET (x :: c) = (x.b, entryObj ET x (hp c)) :: chainO ET c := rfl
    rw [e1, List.cons_append]
    refine List.Perm.cons _ ?_
    have := chainsO_perm (ET := ET) Y i hlt
    rw [hc'] at this
    exact this.symm
  have pf : (A ++ ((t, rowO PT (Y.set i (x :: c))) :: chainsO ET (Y.set i (x :: c)))).Perm ((t, rowO PT (Y.set i (x :: c))) :: (x.b, entryObj ET x (hp c)) :: (A ++ chainsO ET Y)) := by
    refine List.perm_middle.trans (List.Perm.cons _ ?_)
    exact (hC.append_left A).trans List.perm_middle
  refine ⟨s2.perm pf.symm, ?_, fun k => ?_⟩
  · refine Nd.perm ?_ pf.symm
    rw [Nd.cons_iff, Nd.cons_iff, Bs.cons_iff]
    exact ⟨fun e => e.elim (fun e => nx2 e.symm) nt, nx3, n3⟩
  · rw [Bs.perm pf, Bs.perm p1, Bs.cons_iff, Bs.cons_iff, Bs.cons_iff, Bs.cons_iff]
    constructor
    · rintro (h | h | h)
      · exact .inr (.inl h)
      · exact .inl h
      · exact .inr (.inr h)
    · rintro (h | h | h)
      · exact .inr (.inl h)
      · exact .inl h
      · exact .inr (.inr h)
theorem Fr.drewN (S : Nat → Prop) (w : World) (n : Nat) : Fr S w (w.drewN n) := ⟨rfl, rfl, rfl, Nat.le_refl _, fun _ _ _ => rfl⟩
theorem Rep.drewN {w : World} {L : Hl} (h : Rep w L) (n : Nat) : Rep (w.drewN n) L := h.fr (Fr.drewN (fun _ => False) w n) (fun _ _ hk => hk)
section
variable {DT : TypeId} {w : World} {d : Nat} {M : DM}
theorem dict_row_old (h : Rep w (dictO ET PT DT d M)) (hne : M.old ≠ []) : w.heap[M.told]? = some (rowO PT M.old) ∧ Rep w (chainsO ET M.old) := by
  have h1 := h.tail.left
  rw [tabO_of hne] at h1
  exact ⟨h1.head, h1.tail⟩
theorem dict_row_young (h : Rep w (dictO ET PT DT d M)) (hne : M.young ≠ []) : w.heap[M.tyoung]? = some (rowO PT M.young) ∧ Rep w (chainsO ET M.young) := by
  have h1 := h.tail.right
  rw [tabO_of hne] at h1
  exact ⟨h1.head, h1.tail⟩
theorem dict_end (h : Rep w (dictO ET PT DT d M)) (nd : Nd (dictO ET PT DT d M)) :
    Rep (((w.setCell ⟨d, 1, none⟩ (tv M.tyoung M.young)).setCell ⟨d, 2, none⟩ (.slice none 0 0)).setCell ⟨d, 3, none⟩ (.int .i64 0)) (dictO ET PT DT d { M with told := M.tyoung, old := M.young, young := [], at_ := 0 }) ∧
      Nd (dictO ET PT DT d { M with told := M.tyoung, old := M.young, young := [], at_ := 0 }) := by
  obtain ⟨hn1, hn2⟩ := Nd.cons_iff.1 nd
  have h1 := Rep.setHead (cs := #[.int .u64 (wd M.seed), tv M.told M.old, tv M.tyoung M.young, .int .i64 M.at_, .int .i64 M.n]) h 1 (tv M.tyoung M.young) hn1
  have h2 := Rep.setHead h1 2 (.slice none 0 0) hn1
  have h3 := Rep.setHead h2 3 (.int .i64 0) hn1
  obtain ⟨_, hn3, _⟩ := Nd.append_iff.1 hn2
  have e : dictO ET PT DT d { M with told := M.tyoung, old := M.young, young := [], at_ := 0 } = (d, fieldsO DT { M with told := M.tyoung, old := M.young, young := [], at_ := 0 }) :: tabO ET PT M.tyoung M.young := by
    simp [dictO, tabO_nil]
  rw [e]
  refine ⟨Rep.cons ?_ h3.tail.right, Nd.cons_iff.2 ⟨fun hb => hn1 (Bs.append_iff.2 (.inr hb)), hn3⟩⟩
  rw [h3.head]
  simp [fieldsO, tv_nil]
theorem tv_len (t : Nat) (a b : List (List E)) (h : a.length = b.length) : tv t a = tv t b := by
  by_cases ha : a = []
  · subst ha
    have : b = [] := List.length_eq_zero_iff.1 h.symm
    rw [this]
  · have hb : b ≠ [] := by intro e; rw [e] at h; exact ha (List.length_eq_zero_iff.1 h)
    rw [tv_of ha, tv_of hb, h]
theorem dict_moved {a : Nat} {Y : List (List E)} (hol : M.old ≠ []) (hy : M.young ≠ []) (hYl : Y.length = M.young.length)
    (R : Rep w ((d, fieldsO DT { M with at_ := a }) :: (M.told, rowO PT M.old) :: (chainsO ET (M.old.set a []) ++ ((M.tyoung, rowO PT Y) :: chainsO ET Y))))
    (N : Nd ((d, fieldsO DT { M with at_ := a }) :: (M.told, rowO PT M.old) :: (chainsO ET (M.old.set a []) ++ ((M.tyoung, rowO PT Y) :: chainsO ET Y)))) :
    Rep (w.setCell ⟨M.told, a, none⟩ (.pointer none)) (dictO ET PT DT d { M with old := M.old.set a [], young := Y, at_ := a }) ∧ Nd (dictO ET PT DT d { M with old := M.old.set a [], young := Y, at_ := a }) := by
  have hsn : M.old.set a [] ≠ [] := by intro e; exact hol (by simpa using e)
  have hyn : Y ≠ [] := by intro e; rw [e] at hYl; exact hy (List.length_eq_zero_iff.1 hYl.symm)
  have hf : fieldsO DT { M with at_ := a } = fieldsO DT { M with old := M.old.set a [], young := Y, at_ := a } := by
    unfold fieldsO
    simp only
    rw [tv_len M.told M.old (M.old.set a []) (by simp), tv_len M.tyoung M.young Y hYl.symm]
  have e : dictO ET PT DT d { M with old := M.old.set a [], young := Y, at_ := a } = (d, fieldsO DT { M with at_ := a }) :: (M.told, rowO PT (M.old.set a [])) :: (chainsO ET (M.old.set a []) ++ ((M.tyoung, rowO PT Y) :: chainsO ET Y)) := by
    unfold dictO
    simp only
    rw [tabO_of hsn, tabO_of hyn, hf]; rfl
  rw [e]
  have R1 := R.perm (List.Perm.swap _ _ _)
  have N1 := N.perm (List.Perm.swap _ _ _)
  have R2 := Rep.setHead (cs := (M.old.map hp).toArray) R1 a (hp []) (Nd.cons_iff.1 N1).1
  rw [rowO_set] at R2
  refine ⟨R2.perm (List.Perm.swap _ _ _), ?_⟩
  exact N
theorem dict_at (h : Rep w (dictO ET PT DT d M)) (nd : Nd (dictO ET PT DT d M)) (a : Nat) : Rep (w.setCell ⟨d, 3, none⟩ (.int .i64 (a : Int))) (dictO ET PT DT d { M with at_ := a }) :=
  Rep.setHead (cs := #[.int .u64 (wd M.seed), tv M.told M.old, tv M.tyoung M.young, .int .i64 M.at_, .int .i64 M.n]) h 3 _ (Nd.cons_iff.1 nd).1
theorem dict_n (h : Rep w (dictO ET PT DT d M)) (nd : Nd (dictO ET PT DT d M)) (n : Nat) : Rep (w.setCell ⟨d, 4, none⟩ (.int .i64 (n : Int))) (dictO ET PT DT d { M with n := n }) :=
  Rep.setHead (cs := #[.int .u64 (wd M.seed), tv M.told M.old, tv M.tyoung M.young, .int .i64 M.at_, .int .i64 M.n]) h 4 _ (Nd.cons_iff.1 nd).1
end
/-- one entry of a table laid aside -/
theorem chains_entry (cs : List (List E)) (i : Nat) (pre post : List E) (e : E) (h : cs[i]? = some (pre ++ e :: post)) :
    (chainsO ET cs).Perm ((e.b, entryObj ET e (hp post)) :: (chainT ET pre (ptr e.b) ++ (chainO ET post ++ chainsO ET (cs.set i [])))) := by
  obtain ⟨hi, hc⟩ := List.getElem?_eq_some_iff.1 h
  refine (chainsO_perm cs i hi).trans ?_
  rw [hc, chainO_mid, List.append_assoc, List.cons_append]
  exact List.perm_middle
theorem chains_set_entry (cs : List (List E)) (i : Nat) (hi : i < cs.length) (pre post : List E) (e : E) :
    (chainsO ET (cs.set i (pre ++ e :: post))).Perm ((e.b, entryObj ET e (hp post)) :: (chainT ET pre (ptr e.b) ++ (chainO ET post ++ chainsO ET (cs.set i [])))) := by
  have := chains_entry (ET := ET) (cs.set i (pre ++ e :: post)) i pre post e (by simp [hi])
  simpa using this
theorem rowO_same (cs : List (List E)) (i : Nat) (c c' : List E) (h : cs[i]? = some c) (hh : hp c' = hp c) : rowO PT (cs.set i c') = rowO PT cs := by
  obtain ⟨hi, hc⟩ := List.getElem?_eq_some_iff.1 h
  unfold rowO
  congr 2
  apply List.ext_getElem?
  intro j
  rw [List.getElem?_map, List.getElem?_map, List.getElem?_set]
  by_cases hj : i = j
  · subst hj; rw [if_pos rfl, if_pos hi, h]; simp [hh]
  · rw [if_neg hj]
/-- a store into one cell of an entry's value -/
theorem tab_val {w : World} {A : Hl} {t : Nat} {cs : List (List E)} {i : Nat} {pre post : List E} {e : E} (R : Rep w (A ++ ((t, rowO PT cs) :: chainsO ET cs))) (N : Nd (A ++ ((t, rowO PT cs) :: chainsO ET cs)))
    (h : cs[i]? = some (pre ++ e :: post)) (k : Nat) (v : Value) (hk : k < e.val.length) :
    Rep (w.setCell ⟨e.b, 1 + k, none⟩ v) (A ++ ((t, rowO PT (cs.set i (pre ++ { e with val := e.val.set k v } :: post))) :: chainsO ET (cs.set i (pre ++ { e with val := e.val.set k v } :: post)))) ∧
      Nd (A ++ ((t, rowO PT (cs.set i (pre ++ { e with val := e.val.set k v } :: post))) :: chainsO ET (cs.set i (pre ++ { e with val := e.val.set k v } :: post)))) := by
  obtain ⟨hi, hc⟩ := List.getElem?_eq_some_iff.1 h
  have hrow : rowO PT (cs.set i (pre ++ { e with val := e.val.set k v } :: post)) = rowO PT cs := rowO_same cs i _ _ h (by rw [hp_append, hp_append])
  rw [hrow]
  have p1 : (A ++ ((t, rowO PT cs) :: chainsO ET cs)).Perm ((e.b, entryObj ET e (hp post)) :: (A ++ ((t, rowO PT cs) :: (chainT ET pre (ptr e.b) ++ (chainO ET post ++ chainsO ET (cs.set i [])))))) :=
    ((((chains_entry cs i pre post e h).cons _).append_left A).trans ((List.Perm.swap _ _ _).append_left A)).trans List.perm_middle
  have p2 : (A ++ ((t, rowO PT cs) :: chainsO ET (cs.set i (pre ++ { e with val := e.val.set k v } :: post)))).Perm ((e.b, entryObj ET { e with val := e.val.set k v } (hp post)) :: (A ++ ((t, rowO PT cs) :: (chainT ET pre (ptr e.b) ++ (chainO ET post ++ chainsO ET (cs.set i [])))))) :=
    ((((chains_set_entry cs i hi pre post { e with val := e.val.set k v }).cons _).append_left A).trans ((List.Perm.swap _ _ _).append_left A)).trans List.perm_middle
  have N1 := N.perm p1
  have R1 := Rep.setHead (R.perm p1) (1 + k) v (Nd.cons_iff.1 N1).1
  have hent : Obj.cells ((Value.string e.key :: (e.val ++ [hp post])).toArray.setIfInBounds (1 + k) v) ET (0, 0) = entryObj ET { e with val := e.val.set k v } (hp post) := by
    unfold entryObj
    rw [Nat.add_comm 1]
    simp [List.set_append, hk]
  rw [hent] at R1
  exact ⟨R1.perm p2.symm, Nd.perm (Nd.cons_iff.2 (Nd.cons_iff.1 N1)) p2.symm⟩
/-- where the link to what stands behind 'pre' hangs -/
def linkAt (t i : Nat) (pre : List E) : Addr := match pre.getLast? with
  | none => ⟨t, i, none⟩
  | some q => ⟨q.b, 1 + q.val.length, none⟩
/-- an entry is unlinked: one store -/
theorem tab_del {w : World} {A : Hl} {t : Nat} {cs : List (List E)} {i : Nat} {pre post : List E} {e : E} (R : Rep w (A ++ ((t, rowO PT cs) :: chainsO ET cs))) (N : Nd (A ++ ((t, rowO PT cs) :: chainsO ET cs)))
    (h : cs[i]? = some (pre ++ e :: post)) :
    Rep (w.setCell (linkAt t i pre) (hp post)) (A ++ ((t, rowO PT (cs.set i (pre ++ post))) :: chainsO ET (cs.set i (pre ++ post)))) ∧
      Nd (A ++ ((t, rowO PT (cs.set i (pre ++ post))) :: chainsO ET (cs.set i (pre ++ post)))) ∧
      (∀ k, Bs (A ++ ((t, rowO PT (cs.set i (pre ++ post))) :: chainsO ET (cs.set i (pre ++ post)))) k → Bs (A ++ ((t, rowO PT cs) :: chainsO ET cs)) k) ∧ Bs (A ++ ((t, rowO PT cs) :: chainsO ET cs)) (linkAt t i pre).block := by
  obtain ⟨hi, hc⟩ := List.getElem?_eq_some_iff.1 h
  have p1 : (A ++ ((t, rowO PT cs) :: chainsO ET cs)).Perm ((e.b, entryObj ET e (hp post)) :: (A ++ ((t, rowO PT cs) :: (chainT ET pre (ptr e.b) ++ (chainO ET post ++ chainsO ET (cs.set i [])))))) :=
    ((((chains_entry cs i pre post e h).cons _).append_left A).trans ((List.Perm.swap _ _ _).append_left A)).trans List.perm_middle
  have N1 := (Nd.cons_iff.1 (N.perm p1)).2
  have R1 := (R.perm p1).tail
  have hsub : ∀ k, Bs (A ++ ((t, rowO PT cs) :: (chainT ET pre (ptr e.b) ++ (chainO ET post ++ chainsO ET (cs.set i []))))) k → Bs (A ++ ((t, rowO PT cs) :: chainsO ET cs)) k := fun k hk => (Bs.perm p1).2 (Bs.cons_iff.2 (.inr hk))
  have hch : (chainsO ET (cs.set i (pre ++ post))).Perm (chainT ET pre (hp post) ++ (chainO ET post ++ chainsO ET (cs.set i []))) := by
    refine (chainsO_perm_set cs i hi (pre ++ post)).trans ?_
    rw [show chainO ET (pre ++ post) = chainT ET pre (hp post) ++ chainO ET post from chainT_append pre post _, List.append_assoc]
  have p2 := ((hch.cons (t, rowO PT (cs.set i (pre ++ post)))).append_left A)
  have key : ∃ L', (A ++ ((t, rowO PT (cs.set i (pre ++ post))) :: (chainT ET pre (hp post) ++ (chainO ET post ++ chainsO ET (cs.set i []))))).Perm L' ∧ Rep (w.setCell (linkAt t i pre) (hp post)) L' ∧ Nd L' ∧
      (∀ k, Bs L' k → Bs (A ++ ((t, rowO PT cs) :: (chainT ET pre (ptr e.b) ++ (chainO ET post ++ chainsO ET (cs.set i []))))) k) ∧ Bs (A ++ ((t, rowO PT cs) :: (chainT ET pre (ptr e.b) ++ (chainO ET post ++ chainsO ET (cs.set i []))))) (linkAt t i pre).block := by
    cases hl : pre.getLast? with
    | none =>
      have hpre : pre = [] := by simpa using hl
      subst hpre
      have q1 : (A ++ ((t, rowO PT cs) :: (chainT ET ([] : List E) (ptr e.b) ++ (chainO ET post ++ chainsO ET (cs.set i []))))).Perm ((t, rowO PT cs) :: (A ++ (chainO ET post ++ chainsO ET (cs.set i [])))) := List.perm_middle
      have N2 := N1.perm q1
      have R2 := Rep.setHead (R1.perm q1) i (hp post) (Nd.cons_iff.1 N2).1
      rw [rowO_set] at R2
      refine ⟨_, List.perm_middle, R2, N2, fun k hk => (Bs.perm q1).2 hk, ?_⟩
      rw [Bs.perm q1]
      exact Bs.cons_iff.2 (.inl rfl)
    | some q =>
      obtain ⟨pre', rfl⟩ := List.getLast?_eq_some_iff.1 hl
      have e1 : ∀ tl, chainT ET (pre' ++ [q]) tl = chainT ET pre' (ptr q.b) ++ [(q.b, entryObj ET q tl)] := fun tl => by rw [chainT_append]; rfl
      have hrow : rowO PT (cs.set i (pre' ++ [q] ++ post)) = rowO PT cs := rowO_same cs i _ _ h (by rw [List.append_assoc, List.append_assoc]; show hp (pre' ++ q :: post) = hp (pre' ++ q :: (e :: post)); rw [hp_append, hp_append])
      rw [hrow]
      have q1 : ∀ tl, (A ++ ((t, rowO PT cs) :: (chainT ET (pre' ++ [q]) tl ++ (chainO ET post ++ chainsO ET (cs.set i []))))).Perm ((q.b, entryObj ET q tl) :: (A ++ ((t, rowO PT cs) :: (chainT ET pre' (ptr q.b) ++ (chainO ET post ++ chainsO ET (cs.set i [])))))) := fun tl => by
        rw [e1, List.append_assoc]
        exact (((List.perm_middle (a := (q.b, entryObj ET q tl)) (l₁ := chainT ET pre' (ptr q.b)) (l₂ := chainO ET post ++ chainsO ET (cs.set i []))).cons (t, rowO PT cs)).append_left A |>.trans ((List.Perm.swap _ _ _).append_left A)).trans List.perm_middle
      have N2 := N1.perm (q1 _)
      have R2 := Rep.setHead (R1.perm (q1 _)) (1 + q.val.length) (hp post) (Nd.cons_iff.1 N2).1
      rw [entryObj_set] at R2
      refine ⟨_, q1 (hp post), by unfold linkAt; rw [hl]; exact R2, N2, fun k hk => (Bs.perm (q1 (ptr e.b))).2 hk, ?_⟩
      rw [Bs.perm (q1 (ptr e.b))]
      unfold linkAt; rw [hl]
      exact Bs.cons_iff.2 (.inl rfl)
  obtain ⟨L', q1, hR, hN, hB, hb⟩ := key
  have q2 := p2.trans q1
  exact ⟨hR.perm q2.symm, hN.perm q2.symm, fun k hk => hsub k (hB k ((Bs.perm q2).1 hk)), hsub _ hb⟩
theorem row_cell {w : World} {t : Nat} {cs : List (List E)} (h : w.heap[t]? = some (rowO PT cs)) (i : Nat) (hi : i < cs.length) : w.cell? ⟨t, i, none⟩ = some (hp cs[i]) := by
  rw [cell_of_blk h]; simp [hi]
end
end Go.Proofs.Ytgomilodeaafdaa
namespace Go.Proofs.Ytgomilodeaafdaa

def hangM (seed : UInt64) (cs : List (List E)) (e : E) : List (List E) := cs.modify (slotOf seed cs.length e.key) (e :: ·)
def passM (old : List (List E)) : Nat → Nat → Nat
  | 0, a => a
  | k + 1, a => match old[a]? with
    | some [] => passM old k (a + 1)
    | _ => a
def moveM (M : DM) (a : Nat) : DM := match M.old[a]? with
  | some (e :: r) => { M with old := M.old.set a [], young := (e :: r).foldl (hangM M.seed) M.young, at_ := a + 1 }
  | _ => { M with at_ := a }
def endM (M : DM) : DM := if M.at_ = M.old.length then { M with told := M.tyoung, old := M.young, young := [], at_ := 0 } else M
def stepM (M : DM) : DM := if M.young = [] then M else endM (moveM M (passM M.old 10 M.at_))
def entries (M : DM) : List E := M.old.flatten ++ M.young.flatten

theorem hangM_length (seed : UInt64) (cs : List (List E)) (e : E) : (hangM seed cs e).length = cs.length := by simp [hangM]
theorem hangM_eq (seed : UInt64) (cs : List (List E)) (e : E) (c : List E) (hc : cs[slotOf seed cs.length e.key]? = some c) : hangM seed cs e = cs.set (slotOf seed cs.length e.key) (e :: c) := by
  unfold hangM
  rw [List.modify_eq_set, hc]; rfl
theorem foldl_hang_length (seed : UInt64) (l : List E) : ∀ cs : List (List E), (l.foldl (hangM seed) cs).length = cs.length := by
  induction l with
  | nil => intro cs; rfl
  | cons e l ih => intro cs; rw [List.foldl_cons, ih, hangM_length]
theorem slotOf_lt (seed : UInt64) (n : Nat) (key : ByteArray) (h : 0 < n) : slotOf seed n key < n := Nat.mod_lt _ h
theorem passM_ge (old : List (List E)) : ∀ k a, a ≤ passM old k a ∧ passM old k a ≤ a + k := by
  intro k
  induction k with
  | zero => intro a; exact ⟨Nat.le_refl _, Nat.le_refl _⟩
  | succ k ih =>
    intro a
    unfold passM
    split
    · have := ih (a + 1); omega
    · omega
theorem passM_le (old : List (List E)) : ∀ k a, a ≤ old.length → passM old k a ≤ old.length := by
  intro k
  induction k with
  | zero => intro a h; exact h
  | succ k ih =>
    intro a h
    unfold passM
    split
    · rename_i hs
      have := (List.getElem?_eq_some_iff.1 hs).1
      exact ih _ (by omega)
    · exact h
theorem passM_empty (old : List (List E)) : ∀ k a i, a ≤ i → i < passM old k a → old[i]? = some [] := by
  intro k
  induction k with
  | zero => intro a i h1 h2; unfold passM at h2; omega
  | succ k ih =>
    intro a i h1 h2
    unfold passM at h2
    split at h2
    · rename_i hs
      by_cases h : i = a
      · subst h; exact hs
      · exact ih (a + 1) i (by omega) h2
    · omega
theorem modify_flatten_perm (cs : List (List E)) (e : E) : ∀ i, i < cs.length → ((cs.modify i (e :: ·)).flatten).Perm (e :: cs.flatten) := by
  induction cs with
  | nil => intro i h; simp at h
  | cons c cs ih =>
    intro i h
    cases i with
    | zero => simp
    | succ i =>
      have := ih i (by simpa using h)
      simp only [List.modify_succ_cons, List.flatten_cons]
      exact (this.append_left c).trans List.perm_middle
theorem hangM_perm (seed : UInt64) (cs : List (List E)) (e : E) (h : cs ≠ []) : ((hangM seed cs e).flatten).Perm (e :: cs.flatten) :=
  modify_flatten_perm cs e _ (slotOf_lt _ _ _ (List.length_pos_iff.2 h))
theorem foldl_hang_perm (seed : UInt64) (l : List E) : ∀ cs : List (List E), cs ≠ [] → ((l.foldl (hangM seed) cs).flatten).Perm (l ++ cs.flatten) := by
  induction l with
  | nil => intro cs h; exact List.Perm.refl _
  | cons e l ih =>
    intro cs h
    rw [List.foldl_cons]
    have hne : hangM seed cs e ≠ [] := by
      intro h0; have := hangM_length seed cs e; rw [h0] at this; exact h (List.length_eq_zero_iff.1 this.symm)
    refine (ih _ hne).trans ?_
    refine ((hangM_perm seed cs e h).append_left l).trans ?_
    exact List.perm_middle
theorem set_nil_perm (cs : List (List E)) : ∀ i (h : i < cs.length), (cs.flatten).Perm (cs[i] ++ (cs.set i []).flatten) := by
  induction cs with
  | nil => intro i h; simp at h
  | cons c cs ih =>
    intro i h
    cases i with
    | zero => simp
    | succ i =>
      have := ih i (by simpa using h)
      simp only [List.getElem_cons_succ, List.set_cons_succ, List.flatten_cons]
      exact (this.append_left c).trans (List.perm_append_comm_assoc _ _ _)

/-- each key lies in its bucket -/
def Placed (seed : UInt64) (cs : List (List E)) : Prop := ∀ i c, cs[i]? = some c → ∀ e ∈ c, slotOf seed cs.length e.key = i
theorem Placed.nil (seed : UInt64) : Placed seed [] := fun i c h => by simp at h
/-- what holds of every dict between two calls -/
structure Inv (M : DM) : Prop where
  pold : Placed M.seed M.old
  pyoung : Placed M.seed M.young
  keys : ((entries M).map E.key).Nodup
  sold : M.old ≠ [] → ∃ k, 2 ≤ k ∧ M.old.length = 2 ^ k
  syoung : M.young ≠ [] → ∃ k, 2 ≤ k ∧ M.young.length = 2 ^ k
  moving : M.young ≠ [] → M.at_ < M.old.length
  still : M.young = [] → M.at_ = 0
  passed : ∀ i, i < M.at_ → M.old[i]? = some []
  count : M.n = (entries M).length

theorem entries_move (M : DM) (a : Nat) (hy : M.young ≠ []) : (entries (moveM M a)).Perm (entries M) := by
  unfold moveM
  split
  · rename_i e r hs
    obtain ⟨hlt, hc⟩ := List.getElem?_eq_some_iff.1 hs
    unfold entries
    simp only
    have h1 := foldl_hang_perm M.seed (e :: r) M.young hy
    have h2 := set_nil_perm M.old a hlt
    rw [hc] at h2
    refine (h1.append_left _).trans ?_
    refine List.Perm.trans ?_ (h2.symm.append_right _)
    rw [List.append_assoc]
    exact List.perm_append_comm_assoc _ _ _
  · exact List.Perm.refl _
theorem move_lens (M : DM) (a : Nat) : (moveM M a).old.length = M.old.length ∧ (moveM M a).young.length = M.young.length ∧ (moveM M a).seed = M.seed ∧ (moveM M a).n = M.n := by
  unfold moveM
  split
  · exact ⟨by simp, foldl_hang_length _ _ _, rfl, rfl⟩
  · exact ⟨rfl, rfl, rfl, rfl⟩
theorem hang_placed (seed : UInt64) (cs : List (List E)) (e : E) (h : Placed seed cs) : Placed seed (hangM seed cs e) := by
  intro i c hc x hx
  rw [hangM_length]
  unfold hangM at hc
  rw [List.getElem?_modify] at hc
  cases hs : cs[i]? with
  | none => rw [hs] at hc; simp at hc
  | some c0 =>
    rw [hs] at hc
    simp only [Option.map_eq_map, Option.map_some, Option.some.injEq] at hc
    split at hc
    · rename_i he
      subst hc
      rcases List.mem_cons.1 hx with rfl | hx
      · exact he
      · exact h i c0 hs x hx
    · subst hc
      exact h i c0 hs x hx
theorem foldl_placed (seed : UInt64) (l : List E) : ∀ cs : List (List E), Placed seed cs → Placed seed (l.foldl (hangM seed) cs) := by
  induction l with
  | nil => intro cs h; exact h
  | cons e l ih => intro cs h; exact ih _ (hang_placed seed cs e h)
theorem set_placed (seed : UInt64) (cs : List (List E)) (i : Nat) (c : List E) (h : Placed seed cs) (hc : ∀ e ∈ c, slotOf seed cs.length e.key = i) : Placed seed (cs.set i c) := by
  intro j c' hj x hx
  rw [List.length_set]
  rw [List.getElem?_set] at hj
  split at hj
  · rename_i he
    split at hj
    · cases hj; subst he; exact hc x hx
    · cases hj
  · exact h j c' hj x hx
theorem move_cases (M : DM) (a : Nat) : moveM M a = { M with at_ := a } ∨ ∃ e r, M.old[a]? = some (e :: r) ∧ moveM M a = { M with old := M.old.set a [], young := (e :: r).foldl (hangM M.seed) M.young, at_ := a + 1 } := by
  unfold moveM
  split
  · rename_i e r hs; exact .inr ⟨e, r, hs, rfl⟩
  · exact .inl rfl
theorem inv_move (M : DM) (h : Inv M) (hy : M.young ≠ []) (N : DM) (hN : N = moveM M (passM M.old 10 M.at_)) :
    Placed N.seed N.old ∧ Placed N.seed N.young ∧ (∀ i, i < N.at_ → N.old[i]? = some []) ∧ N.at_ ≤ N.old.length ∧ M.at_ ≤ N.at_ ∧ N.at_ ≤ M.at_ + 11 := by
  have hp := passM_ge M.old 10 M.at_
  have hm := h.moving hy
  have hl := passM_le M.old 10 M.at_ (by omega)
  have hpass : ∀ i, i < passM M.old 10 M.at_ → M.old[i]? = some [] := by
    intro i hi
    by_cases hia : i < M.at_
    · exact h.passed i hia
    · exact passM_empty M.old 10 M.at_ i (by omega) hi
  rcases move_cases M (passM M.old 10 M.at_) with hc | ⟨e, r, hs, hc⟩
  · rw [hc] at hN; subst hN
    exact ⟨h.pold, h.pyoung, hpass, hl, hp.1, by simp only; omega⟩
  · rw [hc] at hN; subst hN
    have hlt := (List.getElem?_eq_some_iff.1 hs).1
    refine ⟨set_placed _ _ _ _ h.pold (fun x hx => by cases hx), foldl_placed M.seed (e :: r) M.young h.pyoung, ?_, ?_, by simp only; omega, by simp only; omega⟩
    · intro i hi
      simp only at hi ⊢
      rw [List.getElem?_set]
      by_cases hia : passM M.old 10 M.at_ = i
      · rw [if_pos hia, if_pos (by omega)]
      · rw [if_neg hia]; exact hpass i (by omega)
    · simp only [List.length_set]; omega
theorem endM_pos (M : DM) (h : M.at_ = M.old.length) : endM M = { M with told := M.tyoung, old := M.young, young := [], at_ := 0 } := by unfold endM; rw [if_pos h]
theorem endM_neg (M : DM) (h : ¬ M.at_ = M.old.length) : endM M = M := by unfold endM; rw [if_neg h]
theorem stepM_still (M : DM) (h : M.young = []) : stepM M = M := by unfold stepM; rw [if_pos h]
theorem stepM_moving (M : DM) (h : ¬ M.young = []) : stepM M = endM (moveM M (passM M.old 10 M.at_)) := by unfold stepM; rw [if_neg h]
theorem step_perm (M : DM) (h : Inv M) : (entries (stepM M)).Perm (entries M) := by
  by_cases hy : M.young = []
  · rw [stepM_still M hy]
  · rw [stepM_moving M hy]
    obtain ⟨N, hN⟩ : ∃ N, N = moveM M (passM M.old 10 M.at_) := ⟨_, rfl⟩
    have hi := inv_move M h hy N hN
    have hm := entries_move M (passM M.old 10 M.at_) hy
    rw [← hN] at hm ⊢
    by_cases he : N.at_ = N.old.length
    · rw [endM_pos N he]
      refine List.Perm.trans ?_ hm
      unfold entries
      simp only [List.flatten_nil, List.append_nil]
      have hnil : N.old.flatten = [] := by
        rw [List.flatten_eq_nil_iff]
        intro c hc
        obtain ⟨i, hi1, rfl⟩ := List.getElem_of_mem hc
        have := hi.2.2.1 i (by rw [he]; exact hi1)
        rw [List.getElem?_eq_getElem hi1] at this
        exact Option.some.inj this
      rw [hnil, List.nil_append]
    · rw [endM_neg N he]; exact hm
theorem step_lens (M : DM) : ((stepM M).old.length = M.old.length ∨ (stepM M).old.length = M.young.length) ∧ (stepM M).young.length ≤ M.young.length ∧ (stepM M).seed = M.seed ∧ (stepM M).n = M.n := by
  by_cases hy : M.young = []
  · rw [stepM_still M hy]; exact ⟨.inl rfl, Nat.le_refl _, rfl, rfl⟩
  · rw [stepM_moving M hy]
    have hl := move_lens M (passM M.old 10 M.at_)
    generalize moveM M (passM M.old 10 M.at_) = N at *
    by_cases he : N.at_ = N.old.length
    · rw [endM_pos N he]; exact ⟨.inr hl.2.1, Nat.zero_le _, hl.2.2.1, hl.2.2.2⟩
    · rw [endM_neg N he]; exact ⟨.inl hl.1, Nat.le_of_eq hl.2.1, hl.2.2.1, hl.2.2.2⟩
theorem inv_step (M : DM) (h : Inv M) : Inv (stepM M) := by
  have hperm := step_perm M h
  have hk : ((entries (stepM M)).map E.key).Nodup := (hperm.map E.key).nodup_iff.2 h.keys
  by_cases hy : M.young = []
  · rw [stepM_still M hy]; exact h
  · rw [stepM_moving M hy] at hk hperm ⊢
    obtain ⟨N, hN⟩ : ∃ N, N = moveM M (passM M.old 10 M.at_) := ⟨_, rfl⟩
    have hi := inv_move M h hy N hN
    have hl := move_lens M (passM M.old 10 M.at_)
    rw [← hN] at hl hk hperm ⊢
    have hyl : N.young ≠ [] := by
      intro h0
      have := hl.2.1
      rw [h0] at this
      exact hy (List.length_eq_zero_iff.1 this.symm)
    have hol : M.old ≠ [] := by
      intro h0; have := h.moving hy; rw [h0] at this; simp at this
    by_cases he : N.at_ = N.old.length
    · rw [endM_pos N he] at hk hperm ⊢
      refine ⟨hi.2.1, Placed.nil _, hk, ?_, fun h0 => absurd rfl h0, fun h0 => absurd rfl h0, fun _ => rfl, ?_, ?_⟩
      · intro _; show ∃ k, 2 ≤ k ∧ N.young.length = 2 ^ k; rw [hl.2.1]; exact h.syoung hy
      · intro i h0; simp at h0
      · rw [hperm.length_eq, ← h.count]; exact hl.2.2.2
    · rw [endM_neg N he] at hk hperm ⊢
      refine ⟨hi.1, hi.2.1, hk, ?_, ?_, fun _ => by have := hi.2.2.2.1; omega, fun h0 => absurd h0 hyl, hi.2.2.1, ?_⟩
      · intro _; rw [hl.1]; exact h.sold hol
      · intro _; rw [hl.2.1]; exact h.syoung hy
      · rw [hperm.length_eq, ← h.count]; exact hl.2.2.2
end Go.Proofs.Ytgomilodeaafdaa
namespace Go.Proofs.Ytgomilodeaafdaa

/-- a bucket, parted at a key's entry -/
def splitK (key : ByteArray) : List E → Option (List E × E × List E)
  | [] => none
  | e :: c => if e.key = key then some ([], e, c) else (splitK key c).map fun x => (e :: x.1, x.2.1, x.2.2)
theorem splitK_none (key : ByteArray) (c : List E) : splitK key c = none ↔ ∀ x ∈ c, x.key ≠ key := by
  induction c with
  | nil => simp [splitK]
  | cons e c ih =>
    unfold splitK
    by_cases h : e.key = key
    · simp [h]
    · simp [h, ih]
theorem splitK_some (key : ByteArray) (c pre post : List E) (e : E) : splitK key c = some (pre, e, post) ↔ c = pre ++ e :: post ∧ e.key = key ∧ ∀ x ∈ pre, x.key ≠ key := by
  induction c generalizing pre with
  | nil => simp [splitK]
  | cons a c ih =>
    unfold splitK
    by_cases h : a.key = key
    · rw [if_pos h]
      constructor
      · intro e1
        simp only [Option.some.injEq, Prod.mk.injEq] at e1
        obtain ⟨rfl, rfl, rfl⟩ := e1
        exact ⟨rfl, h, fun x hx => by cases hx⟩
      · rintro ⟨h1, h2, h3⟩
        cases pre with
        | nil => simp only [List.nil_append, List.cons.injEq] at h1; obtain ⟨rfl, rfl⟩ := h1; rfl
        | cons p pre =>
          simp only [List.cons_append, List.cons.injEq] at h1
          exact absurd (h1.1 ▸ h) (h3 p (by simp))
    · rw [if_neg h]
      constructor
      · intro e1
        cases hs : splitK key c with
        | none => rw [hs] at e1; cases e1
        | some y =>
          rw [hs] at e1
          obtain ⟨p, x, q⟩ := y
          simp only [Option.map_some, Option.some.injEq, Prod.mk.injEq] at e1
          obtain ⟨rfl, rfl, rfl⟩ := e1
          obtain ⟨g1, g2, g3⟩ := (ih p).1 hs
          refine ⟨by rw [g1]; rfl, g2, fun z hz => ?_⟩
          rcases List.mem_cons.1 hz with rfl | hz
          · exact h
          · exact g3 z hz
      · rintro ⟨h1, h2, h3⟩
        cases pre with
        | nil => simp only [List.nil_append, List.cons.injEq] at h1; exact absurd (h1.1 ▸ h2) h
        | cons p pre =>
          simp only [List.cons_append, List.cons.injEq] at h1
          obtain ⟨rfl, rfl⟩ := h1
          have := (ih pre).2 ⟨rfl, h2, fun x hx => h3 x (by simp [hx])⟩
          rw [this]; rfl

/-- a key's entry in a table: its bucket, what stands before it there, itself, what stands behind -/
def locT (seed : UInt64) (cs : List (List E)) (key : ByteArray) : Option (Nat × List E × E × List E) :=
  (cs[slotOf seed cs.length key]?).bind fun c => (splitK key c).map fun x => (slotOf seed cs.length key, x)
theorem locT_some {seed : UInt64} {cs : List (List E)} {key : ByteArray} {i : Nat} {pre post : List E} {e : E} (h : locT seed cs key = some (i, pre, e, post)) :
    slotOf seed cs.length key = i ∧ cs[i]? = some (pre ++ e :: post) ∧ e.key = key ∧ ∀ x ∈ pre, x.key ≠ key := by
  unfold locT at h
  cases hc : cs[slotOf seed cs.length key]? with
  | none => rw [hc] at h; cases h
  | some c =>
    rw [hc, Option.bind_some] at h
    cases hs : splitK key c with
    | none => rw [hs] at h; cases h
    | some x =>
      rw [hs] at h
      obtain ⟨p, x, q⟩ := x
      simp only [Option.map_some, Option.some.injEq, Prod.mk.injEq] at h
      obtain ⟨rfl, rfl, rfl, rfl⟩ := h
      obtain ⟨g1, g2, g3⟩ := (splitK_some _ _ _ _ _).1 hs
      exact ⟨rfl, by rw [hc, g1], g2, g3⟩
theorem locT_none {seed : UInt64} {cs : List (List E)} {key : ByteArray} (h : locT seed cs key = none) : ∀ c, cs[slotOf seed cs.length key]? = some c → ∀ x ∈ c, x.key ≠ key := by
  intro c hc
  unfold locT at h
  rw [hc, Option.bind_some] at h
  cases hs : splitK key c with
  | none => exact (splitK_none _ _).1 hs
  | some x => rw [hs] at h; cases h
theorem placed_none {seed : UInt64} {cs : List (List E)} {key : ByteArray} (hp : Placed seed cs) (h : locT seed cs key = none) : ∀ e ∈ cs.flatten, e.key ≠ key := by
  intro e he hk
  obtain ⟨c, hc, hec⟩ := List.mem_flatten.1 he
  obtain ⟨i, hi, rfl⟩ := List.getElem_of_mem hc
  have h1 := hp i _ (List.getElem?_eq_getElem hi) e hec
  rw [hk] at h1
  exact locT_none h _ (by rw [h1]; exact List.getElem?_eq_getElem hi) e hec hk

/-- the bucket changed -/
def putT (cs : List (List E)) (i : Nat) (pre : List E) (e : E) (post : List E) (v : List Value) : List (List E) := cs.set i (pre ++ { e with val := v } :: post)
def delT (cs : List (List E)) (i : Nat) (pre post : List E) : List (List E) := cs.set i (pre ++ post)

def getM (M : DM) (key : ByteArray) : Option (List Value) := match locT M.seed M.old key with
  | some x => some x.2.2.1.val
  | none => (locT M.seed M.young key).map fun x => x.2.2.1.val
def putM (M : DM) (key : ByteArray) (v : List Value) : Option DM := match locT M.seed M.old key with
  | some (i, pre, e, post) => some { M with old := putT M.old i pre e post v }
  | none => match locT M.seed M.young key with
    | some (i, pre, e, post) => some { M with young := putT M.young i pre e post v }
    | none => none
def growM (M : DM) (t : Nat) : DM :=
  if M.old = [] then { M with old := List.replicate 4 [], told := t }
  else if M.young = [] ∧ M.old.length ≤ M.n then { M with young := List.replicate (2 * M.old.length) [], tyoung := t } else M
def addM (M : DM) (e : E) : DM := if M.young = [] then { M with old := hangM M.seed M.old e, n := M.n + 1 } else { M with young := hangM M.seed M.young e, n := M.n + 1 }
def setM (M : DM) (key : ByteArray) (v : List Value) (t b : Nat) : DM := match putM (stepM M) key v with
  | some N => N
  | none => addM (growM (stepM M) t) ⟨b, key, v⟩
/-- the number of buckets of a table that shrinks -/
def fitM (n : Nat) : Nat → Nat → Nat
  | 0, s => s
  | k + 1, s => if s < n then fitM n k (2 * s) else s
def shrinkM (M : DM) (t : Nat) : DM := if M.young = [] ∧ 4 < M.old.length ∧ 8 * M.n ≤ M.old.length then { M with young := List.replicate (fitM M.n 64 4) [], tyoung := t } else M
def dropM (M : DM) (key : ByteArray) : Option DM := match locT M.seed M.old key with
  | some (i, pre, _, post) => some { M with old := delT M.old i pre post, n := M.n - 1 }
  | none => match locT M.seed M.young key with
    | some (i, pre, _, post) => some { M with young := delT M.young i pre post, n := M.n - 1 }
    | none => none
def delM (M : DM) (key : ByteArray) (t : Nat) : DM := match dropM (stepM M) key with
  | some N => shrinkM N t
  | none => stepM M

theorem set_perm (cs : List (List E)) : ∀ i (h : i < cs.length) (c : List E), ((cs.set i c).flatten).Perm (c ++ (cs.set i []).flatten) := by
  intro i h c
  have := set_nil_perm (cs.set i c) i (by simpa using h)
  simpa using this
theorem loc_perm {seed : UInt64} {cs : List (List E)} {key : ByteArray} {i : Nat} {pre post : List E} {e : E} (h : locT seed cs key = some (i, pre, e, post)) :
    (cs.flatten).Perm (e :: (delT cs i pre post).flatten) ∧ ∀ v, ((putT cs i pre e post v).flatten).Perm ({ e with val := v } :: (delT cs i pre post).flatten) := by
  obtain ⟨h1, h2, h3, h4⟩ := locT_some h
  obtain ⟨hi, hc⟩ := List.getElem?_eq_some_iff.1 h2
  have p1 := set_nil_perm cs i hi
  rw [hc] at p1
  have p2 := set_perm cs i hi (pre ++ post)
  refine ⟨p1.trans ?_, fun v => (set_perm cs i hi _).trans ?_⟩
  · refine List.Perm.trans ?_ (p2.symm.cons e)
    rw [List.append_assoc, List.append_assoc]
    exact List.perm_middle
  · refine List.Perm.trans ?_ (p2.symm.cons _)
    rw [List.append_assoc, List.append_assoc]
    exact List.perm_middle
/-- the pairs of a table -/
abbrev Tb := List (ByteArray × List Value)
def pairOf (e : E) : ByteArray × List Value := (e.key, e.val)
def tb (M : DM) : Tb := (entries M).map pairOf
def tbDel (key : ByteArray) (T : Tb) : Tb := T.filter fun x => decide (x.1 ≠ key)
def tbSet (key : ByteArray) (v : List Value) (T : Tb) : Tb := (key, v) :: tbDel key T

theorem entries_old (M : DM) (key : ByteArray) (i : Nat) (pre post : List E) (e : E) (h : locT M.seed M.old key = some (i, pre, e, post)) :
    (entries M).Perm (e :: entries { M with old := delT M.old i pre post, n := M.n - 1 }) ∧ ∀ v, (entries { M with old := putT M.old i pre e post v }).Perm ({ e with val := v } :: entries { M with old := delT M.old i pre post, n := M.n - 1 }) := by
  obtain ⟨h1, h2⟩ := loc_perm h
  exact ⟨h1.append_right _, fun v => (h2 v).append_right _⟩
theorem entries_young (M : DM) (key : ByteArray) (i : Nat) (pre post : List E) (e : E) (h : locT M.seed M.young key = some (i, pre, e, post)) :
    (entries M).Perm (e :: entries { M with young := delT M.young i pre post, n := M.n - 1 }) ∧ ∀ v, (entries { M with young := putT M.young i pre e post v }).Perm ({ e with val := v } :: entries { M with young := delT M.young i pre post, n := M.n - 1 }) := by
  obtain ⟨h1, h2⟩ := loc_perm h
  exact ⟨(h1.append_left _).trans List.perm_middle, fun v => ((h2 v).append_left _).trans List.perm_middle⟩
theorem tbDel_perm {key : ByteArray} {v : List Value} {T R : Tb} (h : T.Perm ((key, v) :: R)) (hk : (T.map (·.1)).Nodup) : (tbDel key T).Perm R := by
  have h2 := h.filter fun x => decide (x.1 ≠ key)
  have h3 := (h.map (·.1)).nodup_iff.1 hk
  rw [List.map_cons, List.nodup_cons] at h3
  have e : ((key, v) :: R).filter (fun x => decide (x.1 ≠ key)) = R := by
    rw [List.filter_cons, if_neg (by simp), List.filter_eq_self]
    intro x hx
    simp only [ne_eq, decide_not, Bool.not_eq_eq_eq_not, Bool.not_true, decide_eq_false_iff_not]
    intro e
    have hm : x.1 ∈ R.map (·.1) := List.mem_map_of_mem (f := Prod.fst) hx
    rw [e] at hm
    exact h3.1 hm
  rw [e] at h2
  exact h2
theorem tbDel_none {key : ByteArray} {T : Tb} (h : ∀ x ∈ T, x.1 ≠ key) : tbDel key T = T := by
  unfold tbDel
  rw [List.filter_eq_self]
  intro x hx
  simpa using h x hx
theorem tb_keys (M : DM) : (tb M).map (·.1) = (entries M).map E.key := by unfold tb; rw [List.map_map]; rfl
theorem put_placed {seed : UInt64} {cs : List (List E)} {key : ByteArray} {i : Nat} {pre post : List E} {e : E} (hp : Placed seed cs) (h : locT seed cs key = some (i, pre, e, post)) (v : List Value) :
    Placed seed (putT cs i pre e post v) ∧ Placed seed (delT cs i pre post) := by
  obtain ⟨h1, h2, h3, h4⟩ := locT_some h
  constructor
  · refine set_placed seed cs i _ hp (fun x hx => ?_)
    rcases List.mem_append.1 hx with hx | hx
    · exact hp i _ h2 x (by simp [hx])
    · rcases List.mem_cons.1 hx with rfl | hx
      · show slotOf seed cs.length e.key = i
        rw [h3]; exact h1
      · exact hp i _ h2 x (by simp [hx])
  · refine set_placed seed cs i _ hp (fun x hx => ?_)
    rcases List.mem_append.1 hx with hx | hx
    · exact hp i _ h2 x (by simp [hx])
    · exact hp i _ h2 x (by simp [hx])
theorem set_passed {M : DM} {i : Nat} (h : Inv M) (hc : ∃ x, M.old[i]? = some x ∧ x ≠ []) (c' : List E) : ∀ j, j < M.at_ → (M.old.set i c')[j]? = some [] := by
  intro j hj
  obtain ⟨x, hx, hne⟩ := hc
  rw [List.getElem?_set, if_neg]
  · exact h.passed j hj
  · intro e
    subst e
    have := h.passed _ hj
    rw [hx] at this
    exact hne (Option.some.inj this)
theorem len_ne {α : Type} {a b : List α} (h : a.length = b.length) (hb : a ≠ []) : b ≠ [] := by
  intro e; rw [e] at h; exact hb (List.length_eq_zero_iff.1 h)
theorem getM_some {M : DM} (h : Inv M) (key : ByteArray) (v : List Value) : getM M key = some v ↔ (key, v) ∈ tb M := by
  have hk := h.keys
  unfold getM
  cases h1 : locT M.seed M.old key with
  | some x =>
    obtain ⟨i, pre, e, post⟩ := x
    have hp := (entries_old M key i pre post e h1).1
    obtain ⟨_, _, h3, _⟩ := locT_some h1
    have hn := (hp.map E.key).nodup_iff.1 hk
    rw [List.map_cons, List.nodup_cons] at hn
    simp only [Option.some.injEq]
    unfold tb
    rw [List.mem_map]
    constructor
    · rintro rfl; exact ⟨e, hp.mem_iff.2 (by simp), by unfold pairOf; rw [h3]⟩
    · rintro ⟨x, hx, hxe⟩
      simp only [pairOf, Prod.mk.injEq] at hxe
      rcases List.mem_cons.1 (hp.mem_iff.1 hx) with rfl | hx
      · exact hxe.2
      · exact absurd (List.mem_map_of_mem (f := E.key) hx) (by rw [hxe.1, ← h3]; exact hn.1)
  | none =>
    simp only
    cases h2 : locT M.seed M.young key with
    | some x =>
      obtain ⟨i, pre, e, post⟩ := x
      have hp := (entries_young M key i pre post e h2).1
      obtain ⟨_, _, h3, _⟩ := locT_some h2
      have hn := (hp.map E.key).nodup_iff.1 hk
      rw [List.map_cons, List.nodup_cons] at hn
      simp only [Option.map_some, Option.some.injEq]
      unfold tb
      rw [List.mem_map]
      constructor
      · rintro rfl; exact ⟨e, hp.mem_iff.2 (by simp), by unfold pairOf; rw [h3]⟩
      · rintro ⟨x, hx, hxe⟩
        simp only [pairOf, Prod.mk.injEq] at hxe
        rcases List.mem_cons.1 (hp.mem_iff.1 hx) with rfl | hx
        · exact hxe.2
        · exact absurd (List.mem_map_of_mem (f := E.key) hx) (by rw [hxe.1, ← h3]; exact hn.1)
    | none =>
      simp only [Option.map_none, reduceCtorEq, false_iff]
      unfold tb
      rw [List.mem_map]
      rintro ⟨x, hx, hxe⟩
      simp only [pairOf, Prod.mk.injEq] at hxe
      rcases List.mem_append.1 hx with hx | hx
      · exact placed_none h.pold h1 x hx hxe.1
      · exact placed_none h.pyoung h2 x hx hxe.1
theorem inv_put {M N : DM} (h : Inv M) (key : ByteArray) (v : List Value) (hN : putM M key v = some N) :
    Inv N ∧ (tb N).Perm (tbSet key v (tb M)) ∧ (∃ u, (key, u) ∈ tb M) ∧ N.old.length = M.old.length ∧ N.young.length = M.young.length ∧ N.seed = M.seed ∧ N.n = M.n ∧ N.at_ = M.at_ ∧ N.told = M.told ∧ N.tyoung = M.tyoung := by
  have hk := h.keys
  have hk2 : ((tb M).map (·.1)).Nodup := by rw [tb_keys]; exact hk
  unfold putM at hN
  cases h1 : locT M.seed M.old key with
  | some x =>
    obtain ⟨i, pre, e, post⟩ := x
    rw [h1] at hN
    simp only [Option.some.injEq] at hN
    subst hN
    obtain ⟨hp, hq⟩ := entries_old M key i pre post e h1
    obtain ⟨g1, g2, g3, g4⟩ := locT_some h1
    have hq' := hq v
    have hkeys : ((entries { M with old := putT M.old i pre e post v }).map E.key).Perm ((entries M).map E.key) := (hq'.map E.key).trans (hp.map E.key).symm
    have hl : (putT M.old i pre e post v).length = M.old.length := by simp [putT]
    have hpt := hp.map pairOf
    have hqt := hq'.map pairOf
    simp only [List.map_cons, pairOf, g3] at hpt hqt
    refine ⟨⟨(put_placed h.pold h1 v).1, h.pyoung, hkeys.nodup_iff.2 hk, ?_, h.syoung, ?_, h.still, ?_, ?_⟩, ?_, ?_, hl, rfl, rfl, rfl, rfl, rfl, rfl⟩
    · intro hne; rw [hl]; exact h.sold (len_ne hl hne)
    · intro hy; show M.at_ < (putT M.old i pre e post v).length; rw [hl]; exact h.moving hy
    · exact set_passed h ⟨_, g2, by simp⟩ _
    · rw [h.count, ← List.length_map (f := E.key), ← List.length_map (f := E.key)]; exact hkeys.length_eq.symm
    · exact hqt.trans ((tbDel_perm hpt hk2).symm.cons _)
    · exact ⟨e.val, hpt.mem_iff.2 (by simp)⟩
  | none =>
    rw [h1] at hN
    simp only at hN
    cases h2 : locT M.seed M.young key with
    | none => rw [h2] at hN; cases hN
    | some x =>
      obtain ⟨i, pre, e, post⟩ := x
      rw [h2] at hN
      simp only [Option.some.injEq] at hN
      subst hN
      obtain ⟨hp, hq⟩ := entries_young M key i pre post e h2
      obtain ⟨g1, g2, g3, g4⟩ := locT_some h2
      have hq' := hq v
      have hkeys : ((entries { M with young := putT M.young i pre e post v }).map E.key).Perm ((entries M).map E.key) := (hq'.map E.key).trans (hp.map E.key).symm
      have hl : (putT M.young i pre e post v).length = M.young.length := by simp [putT]
      have hpt := hp.map pairOf
      have hqt := hq'.map pairOf
      simp only [List.map_cons, pairOf, g3] at hpt hqt
      refine ⟨⟨h.pold, (put_placed h.pyoung h2 v).1, hkeys.nodup_iff.2 hk, h.sold, ?_, ?_, ?_, h.passed, ?_⟩, ?_, ?_, rfl, hl, rfl, rfl, rfl, rfl, rfl⟩
      · intro hne; rw [hl]; exact h.syoung (len_ne hl hne)
      · intro hy; exact h.moving (len_ne hl hy)
      · intro hy; exact h.still (List.length_eq_zero_iff.1 (by rw [← hl]; exact List.length_eq_zero_iff.2 hy))
      · rw [h.count, ← List.length_map (f := E.key), ← List.length_map (f := E.key)]; exact hkeys.length_eq.symm
      · exact hqt.trans ((tbDel_perm hpt hk2).symm.cons _)
      · exact ⟨e.val, hpt.mem_iff.2 (by simp)⟩
theorem put_none {M : DM} (h : Inv M) (key : ByteArray) (v : List Value) (hN : putM M key v = none) : (∀ e ∈ entries M, e.key ≠ key) ∧ locT M.seed M.old key = none ∧ locT M.seed M.young key = none := by
  unfold putM at hN
  cases h1 : locT M.seed M.old key with
  | some x => obtain ⟨i, pre, e, post⟩ := x; rw [h1] at hN; cases hN
  | none =>
    rw [h1] at hN
    simp only at hN
    cases h2 : locT M.seed M.young key with
    | some x => obtain ⟨i, pre, e, post⟩ := x; rw [h2] at hN; cases hN
    | none =>
      refine ⟨fun e he => ?_, rfl, rfl⟩
      rcases List.mem_append.1 he with he | he
      · exact placed_none h.pold h1 e he
      · exact placed_none h.pyoung h2 e he
theorem placed_replicate (seed : UInt64) (n : Nat) : Placed seed (List.replicate n []) := by
  intro i c hc e he
  rw [List.getElem?_replicate] at hc
  split at hc
  · cases hc; cases he
  · cases hc
theorem flatten_replicate_nil (n : Nat) : (List.replicate n ([] : List E)).flatten = [] := by
  rw [List.flatten_eq_nil_iff]
  intro c hc
  exact (List.mem_replicate.1 hc).2
theorem replicate_ne {n : Nat} (h : 0 < n) : List.replicate n ([] : List E) ≠ [] := by
  intro e
  have := congrArg List.length e
  simp at this
  omega
theorem grow_inv {M : DM} (h : Inv M) (t : Nat) : Inv (growM M t) ∧ entries (growM M t) = entries M ∧ (growM M t).old ≠ [] ∧ (growM M t).seed = M.seed ∧ (growM M t).n = M.n := by
  unfold growM
  by_cases h1 : M.old = []
  · have hy : M.young = [] := by
      cases hy : M.young with
      | nil => rfl
      | cons a l => have := h.moving (by rw [hy]; simp); rw [h1] at this; simp at this
    rw [if_pos h1]
    refine ⟨⟨placed_replicate _ _, h.pyoung, ?_, fun _ => ⟨2, by decide, by simp⟩, h.syoung, fun hne => absurd hy hne, h.still, ?_, ?_⟩, ?_, replicate_ne (by decide), rfl, rfl⟩
    · have := h.keys
      unfold entries at this ⊢
      rw [flatten_replicate_nil]; rw [h1] at this; exact this
    · intro i hi
      have := h.still hy
      simp only at hi
      omega
    · have := h.count
      unfold entries at this ⊢
      rw [flatten_replicate_nil]; rw [h1] at this; exact this
    · unfold entries
      rw [flatten_replicate_nil, h1]; rfl
  · rw [if_neg h1]
    by_cases h2 : M.young = [] ∧ M.old.length ≤ M.n
    · rw [if_pos h2]
      have hpos := List.length_pos_iff.2 h1
      have hat := h.still h2.1
      refine ⟨⟨h.pold, placed_replicate _ _, ?_, h.sold, fun _ => ?_, fun _ => by simp only; omega, fun hne => absurd hne (replicate_ne (by omega)), h.passed, ?_⟩, ?_, h1, rfl, rfl⟩
      · have := h.keys
        unfold entries at this ⊢
        rw [flatten_replicate_nil]; rw [h2.1] at this; exact this
      · obtain ⟨k, hk, hk2⟩ := h.sold h1
        exact ⟨k + 1, by omega, by simp only [List.length_replicate]; rw [hk2, Nat.pow_succ, Nat.mul_comm]⟩
      · have := h.count
        unfold entries at this ⊢
        rw [flatten_replicate_nil]; rw [h2.1] at this; exact this
      · unfold entries
        rw [flatten_replicate_nil, h2.1]; rfl
    · rw [if_neg h2]; exact ⟨h, rfl, h1, rfl, rfl⟩
theorem add_inv {M : DM} (h : Inv M) (hne : M.old ≠ []) (e : E) (hk : ∀ x ∈ entries M, x.key ≠ e.key) : Inv (addM M e) ∧ (entries (addM M e)).Perm (e :: entries M) := by
  have hkk : ((e :: entries M).map E.key).Nodup := by
    rw [List.map_cons, List.nodup_cons]
    refine ⟨?_, h.keys⟩
    intro hm
    obtain ⟨x, hx, hxe⟩ := List.mem_map.1 hm
    exact hk x hx hxe
  unfold addM
  by_cases hy : M.young = []
  · rw [if_pos hy]
    have hp : (entries { M with old := hangM M.seed M.old e, n := M.n + 1 }).Perm (e :: entries M) := (hangM_perm M.seed M.old e hne).append_right _
    have hl := hangM_length M.seed M.old e
    refine ⟨⟨hang_placed _ _ _ h.pold, h.pyoung, (hp.map E.key).nodup_iff.2 hkk, ?_, h.syoung, fun h2 => absurd hy h2, h.still, ?_, ?_⟩, hp⟩
    · intro _; rw [hl]; exact h.sold hne
    · intro i hi
      have := h.still hy
      simp only at hi
      omega
    · have := hp.length_eq
      rw [List.length_cons, ← h.count] at this
      exact this.symm
  · rw [if_neg hy]
    have hp : (entries { M with young := hangM M.seed M.young e, n := M.n + 1 }).Perm (e :: entries M) := ((hangM_perm M.seed M.young e hy).append_left _).trans List.perm_middle
    have hl := hangM_length M.seed M.young e
    refine ⟨⟨h.pold, hang_placed _ _ _ h.pyoung, (hp.map E.key).nodup_iff.2 hkk, h.sold, ?_, ?_, ?_, h.passed, ?_⟩, hp⟩
    · intro _; rw [hl]; exact h.syoung hy
    · intro _; exact h.moving hy
    · intro h2; exact h.still (List.length_eq_zero_iff.1 (by rw [← hl]; exact List.length_eq_zero_iff.2 h2))
    · have := hp.length_eq
      rw [List.length_cons, ← h.count] at this
      exact this.symm
theorem tb_perm {M N : DM} (h : (entries M).Perm (entries N)) : (tb M).Perm (tb N) := h.map pairOf
theorem tbDel_perm' {key : ByteArray} {T U : Tb} (h : T.Perm U) : (tbDel key T).Perm (tbDel key U) := h.filter _
theorem set_inv {M : DM} (h : Inv M) (key : ByteArray) (v : List Value) (t b : Nat) : Inv (setM M key v t b) ∧ (tb (setM M key v t b)).Perm (tbSet key v (tb M)) := by
  have hs := inv_step M h
  have hp := step_perm M h
  unfold setM
  cases hput : putM (stepM M) key v with
  | some N =>
    obtain ⟨h1, h2, _⟩ := inv_put hs key v hput
    exact ⟨h1, h2.trans ((tbDel_perm' (tb_perm hp)).cons _)⟩
  | none =>
    obtain ⟨h1, _, _⟩ := put_none hs key v hput
    obtain ⟨g1, g2, g3, g4, g5⟩ := grow_inv hs t
    obtain ⟨a1, a2⟩ := add_inv g1 g3 ⟨b, key, v⟩ (by rw [g2]; exact h1)
    refine ⟨a1, ?_⟩
    have e1 : (tb (addM (growM (stepM M) t) ⟨b, key, v⟩)).Perm ((key, v) :: tb (stepM M)) := by
      have := a2.map pairOf
      rw [List.map_cons, g2] at this
      exact this
    have e2 : tbDel key (tb (stepM M)) = tb (stepM M) := tbDel_none (fun x hx => by
      obtain ⟨e, he, rfl⟩ := List.mem_map.1 hx
      exact h1 e he)
    refine e1.trans (List.Perm.cons _ ?_)
    rw [← e2]
    exact tbDel_perm' (tb_perm hp)
theorem fitM_pow (n : Nat) : ∀ k s j, s = 2 ^ j → 2 ≤ j → ∃ i, 2 ≤ i ∧ fitM n k s = 2 ^ i := by
  intro k
  induction k with
  | zero => intro s j h hj; exact ⟨j, hj, h⟩
  | succ k ih =>
    intro s j h hj
    unfold fitM
    by_cases hs : s < n
    · rw [if_pos hs]; exact ih (2 * s) (j + 1) (by rw [h, Nat.pow_succ, Nat.mul_comm]) (by omega)
    · rw [if_neg hs]; exact ⟨j, hj, h⟩
theorem fitM_le (n : Nat) : ∀ k s, s ≤ max 4 (2 * n) → fitM n k s ≤ max 4 (2 * n) := by
  intro k
  induction k with
  | zero => intro s h; exact h
  | succ k ih =>
    intro s h
    unfold fitM
    by_cases hs : s < n
    · rw [if_pos hs]; exact ih (2 * s) (by omega)
    · rw [if_neg hs]; exact h
theorem shrink_inv {M : DM} (h : Inv M) (t : Nat) : Inv (shrinkM M t) ∧ entries (shrinkM M t) = entries M := by
  unfold shrinkM
  by_cases h2 : M.young = [] ∧ 4 < M.old.length ∧ 8 * M.n ≤ M.old.length
  · rw [if_pos h2]
    have hat := h.still h2.1
    obtain ⟨i, hi, he⟩ := fitM_pow M.n 64 4 2 rfl (by decide)
    have hpos : 0 < fitM M.n 64 4 := by rw [he]; exact Nat.two_pow_pos i
    refine ⟨⟨h.pold, placed_replicate _ _, ?_, h.sold, fun _ => ⟨i, hi, by simp only [List.length_replicate]; exact he⟩, fun _ => by simp only; omega, fun hne => absurd hne (replicate_ne hpos), h.passed, ?_⟩, ?_⟩
    · have := h.keys
      unfold entries at this ⊢
      rw [flatten_replicate_nil]; rw [h2.1] at this; exact this
    · have := h.count
      unfold entries at this ⊢
      rw [flatten_replicate_nil]; rw [h2.1] at this; exact this
    · unfold entries
      rw [flatten_replicate_nil, h2.1]; rfl
  · rw [if_neg h2]; exact ⟨h, rfl⟩
theorem inv_drop {M N : DM} (h : Inv M) (key : ByteArray) (hN : dropM M key = some N) :
    Inv N ∧ (tb N).Perm (tbDel key (tb M)) ∧ (∃ u, (key, u) ∈ tb M) ∧ N.old.length = M.old.length ∧ N.young.length = M.young.length ∧ N.seed = M.seed ∧ N.n + 1 = M.n ∧ N.at_ = M.at_ ∧ N.told = M.told ∧ N.tyoung = M.tyoung := by
  have hk := h.keys
  have hk2 : ((tb M).map (·.1)).Nodup := by rw [tb_keys]; exact hk
  unfold dropM at hN
  cases h1 : locT M.seed M.old key with
  | some x =>
    obtain ⟨i, pre, e, post⟩ := x
    rw [h1] at hN
    simp only [Option.some.injEq] at hN
    subst hN
    obtain ⟨hp, hq⟩ := entries_old M key i pre post e h1
    obtain ⟨g1, g2, g3, g4⟩ := locT_some h1
    have hl : (delT M.old i pre post).length = M.old.length := by simp [delT]
    have hpt := hp.map pairOf
    simp only [List.map_cons, pairOf, g3] at hpt
    have hn := (hp.map E.key).nodup_iff.1 hk
    rw [List.map_cons, List.nodup_cons] at hn
    have hlen := hp.length_eq
    rw [List.length_cons, ← h.count] at hlen
    refine ⟨⟨(put_placed h.pold h1 []).2, h.pyoung, hn.2, ?_, h.syoung, ?_, h.still, ?_, ?_⟩, ?_, ?_, hl, rfl, rfl, ?_, rfl, rfl, rfl⟩
    · intro hne; rw [hl]; exact h.sold (len_ne hl hne)
    · intro hy; show M.at_ < (delT M.old i pre post).length; rw [hl]; exact h.moving hy
    · exact set_passed h ⟨_, g2, by simp⟩ _
    · show M.n - 1 = _; omega
    · exact (tbDel_perm hpt hk2).symm
    · exact ⟨e.val, hpt.mem_iff.2 (by simp)⟩
    · show M.n - 1 + 1 = M.n; omega
  | none =>
    rw [h1] at hN
    simp only at hN
    cases h2 : locT M.seed M.young key with
    | none => rw [h2] at hN; cases hN
    | some x =>
      obtain ⟨i, pre, e, post⟩ := x
      rw [h2] at hN
      simp only [Option.some.injEq] at hN
      subst hN
      obtain ⟨hp, hq⟩ := entries_young M key i pre post e h2
      obtain ⟨g1, g2, g3, g4⟩ := locT_some h2
      have hl : (delT M.young i pre post).length = M.young.length := by simp [delT]
      have hpt := hp.map pairOf
      simp only [List.map_cons, pairOf, g3] at hpt
      have hn := (hp.map E.key).nodup_iff.1 hk
      rw [List.map_cons, List.nodup_cons] at hn
      have hlen := hp.length_eq
      rw [List.length_cons, ← h.count] at hlen
      refine ⟨⟨h.pold, (put_placed h.pyoung h2 []).2, hn.2, h.sold, ?_, ?_, ?_, h.passed, ?_⟩, ?_, ?_, rfl, hl, rfl, ?_, rfl, rfl, rfl⟩
      · intro hne; rw [hl]; exact h.syoung (len_ne hl hne)
      · intro hy; exact h.moving (len_ne hl hy)
      · intro hy; exact h.still (List.length_eq_zero_iff.1 (by rw [← hl]; exact List.length_eq_zero_iff.2 hy))
      · show M.n - 1 = _; omega
      · exact (tbDel_perm hpt hk2).symm
      · exact ⟨e.val, hpt.mem_iff.2 (by simp)⟩
      · show M.n - 1 + 1 = M.n; omega
theorem drop_none {M : DM} (h : Inv M) (key : ByteArray) (hN : dropM M key = none) : (∀ e ∈ entries M, e.key ≠ key) ∧ locT M.seed M.old key = none ∧ locT M.seed M.young key = none := by
  unfold dropM at hN
  cases h1 : locT M.seed M.old key with
  | some x => obtain ⟨i, pre, e, post⟩ := x; rw [h1] at hN; cases hN
  | none =>
    rw [h1] at hN
    simp only at hN
    cases h2 : locT M.seed M.young key with
    | some x => obtain ⟨i, pre, e, post⟩ := x; rw [h2] at hN; cases hN
    | none =>
      refine ⟨fun e he => ?_, rfl, rfl⟩
      rcases List.mem_append.1 he with he | he
      · exact placed_none h.pold h1 e he
      · exact placed_none h.pyoung h2 e he
theorem del_inv {M : DM} (h : Inv M) (key : ByteArray) (t : Nat) : Inv (delM M key t) ∧ (tb (delM M key t)).Perm (tbDel key (tb M)) := by
  have hs := inv_step M h
  have hp := step_perm M h
  unfold delM
  cases hd : dropM (stepM M) key with
  | some N =>
    obtain ⟨h1, h2, _⟩ := inv_drop hs key hd
    obtain ⟨g1, g2⟩ := shrink_inv h1 t
    refine ⟨g1, ?_⟩
    show ((entries (shrinkM N t)).map pairOf).Perm _
    rw [g2]
    exact h2.trans (tbDel_perm' (tb_perm hp))
  | none =>
    obtain ⟨h1, _, _⟩ := drop_none hs key hd
    refine ⟨hs, (tb_perm hp).trans ?_⟩
    have e2 : tbDel key (tb M) = tb M := tbDel_none (fun x hx => by
      obtain ⟨e, he, rfl⟩ := List.mem_map.1 hx
      exact h1 e (hp.mem_iff.2 he))
    rw [e2]
theorem chainsO_bs {ET : TypeId} (cs : List (List E)) (k : Nat) : Bs (chainsO ET cs) k ↔ k ∈ cs.flatten.map E.b := by
  induction cs with
  | nil => simp [chainsO, Bs]
  | cons c cs ih =>
    rw [chainsO_cons, Bs.append_iff, ih, List.flatten_cons, List.map_append, List.mem_append]
    have : Bs (chainO ET c) k ↔ k ∈ c.map E.b := by
      unfold Bs chainO
      rw [chainT_blocks]
    rw [this]
theorem tabO_bs {ET PT : TypeId} (t : Nat) (cs : List (List E)) (k : Nat) : Bs (tabO ET PT t cs) k ↔ (cs ≠ [] ∧ k = t) ∨ k ∈ cs.flatten.map E.b := by
  by_cases h : cs = []
  · subst h; simp [tabO_nil, Bs]
  · rw [tabO_of h, Bs.cons_iff, chainsO_bs]
    simp [h]
/-- the blocks of a dict -/
theorem dict_bs {ET PT DT : TypeId} (d : Nat) (M : DM) (k : Nat) : Bs (dictO ET PT DT d M) k ↔ k = d ∨ (M.old ≠ [] ∧ k = M.told) ∨ (M.young ≠ [] ∧ k = M.tyoung) ∨ k ∈ (entries M).map E.b := by
  unfold dictO entries
  rw [Bs.cons_iff, Bs.append_iff, tabO_bs, tabO_bs, List.map_append, List.mem_append]
  constructor
  · rintro (h | (h | h) | (h | h))
    · exact .inl h
    · exact .inr (.inl h)
    · exact .inr (.inr (.inr (.inl h)))
    · exact .inr (.inr (.inl h))
    · exact .inr (.inr (.inr (.inr h)))
  · rintro (h | h | h | (h | h))
    · exact .inl h
    · exact .inr (.inl (.inl h))
    · exact .inr (.inr (.inl h))
    · exact .inr (.inl (.inr h))
    · exact .inr (.inr (.inr h))
theorem step_bs {ET PT DT : TypeId} (d : Nat) (M : DM) (h : Inv M) (k : Nat) (hk : Bs (dictO ET PT DT d (stepM M)) k) : Bs (dictO ET PT DT d M) k := by
  rw [dict_bs] at hk ⊢
  have hp := (step_perm M h).map E.b
  rw [hp.mem_iff] at hk
  by_cases hy : M.young = []
  · rw [stepM_still M hy] at hk; exact hk
  · rw [stepM_moving M hy] at hk
    have hl := move_lens M (passM M.old 10 M.at_)
    have ht : (moveM M (passM M.old 10 M.at_)).told = M.told ∧ (moveM M (passM M.old 10 M.at_)).tyoung = M.tyoung := by
      rcases move_cases M (passM M.old 10 M.at_) with hc | ⟨e, r, _, hc⟩ <;> rw [hc] <;> exact ⟨rfl, rfl⟩
    generalize moveM M (passM M.old 10 M.at_) = N at hk hl ht
    by_cases he : N.at_ = N.old.length
    · rw [endM_pos N he] at hk
      rcases hk with h1 | ⟨_, h2⟩ | ⟨h3, _⟩ | h4
      · exact .inl h1
      · exact .inr (.inr (.inl ⟨hy, by rw [h2]; exact ht.2⟩))
      · exact absurd rfl h3
      · exact .inr (.inr (.inr h4))
    · rw [endM_neg N he] at hk
      rcases hk with h1 | ⟨h2, h3⟩ | ⟨_, h3⟩ | h4
      · exact .inl h1
      · exact .inr (.inl ⟨len_ne hl.1 h2, by rw [h3]; exact ht.1⟩)
      · exact .inr (.inr (.inl ⟨hy, by rw [h3]; exact ht.2⟩))
      · exact .inr (.inr (.inr h4))
theorem put_blocks {M N : DM} (key : ByteArray) (v : List Value) (hN : putM M key v = some N) : ((entries N).map E.b).Perm ((entries M).map E.b) := by
  unfold putM at hN
  cases h1 : locT M.seed M.old key with
  | some x =>
    obtain ⟨i, pre, e, post⟩ := x
    rw [h1] at hN
    simp only [Option.some.injEq] at hN
    subst hN
    obtain ⟨hp, hq⟩ := entries_old M key i pre post e h1
    exact ((hq v).map E.b).trans (hp.map E.b).symm
  | none =>
    rw [h1] at hN
    simp only at hN
    cases h2 : locT M.seed M.young key with
    | none => rw [h2] at hN; cases hN
    | some x =>
      obtain ⟨i, pre, e, post⟩ := x
      rw [h2] at hN
      simp only [Option.some.injEq] at hN
      subst hN
      obtain ⟨hp, hq⟩ := entries_young M key i pre post e h2
      exact ((hq v).map E.b).trans (hp.map E.b).symm
end Go.Proofs.Ytgomilodeaafdaa
namespace Go.Proofs.Ytgomilodeaafdaa
open Go.RowKit

section
variable {ET PT DT : TypeId} {w : World} {d : Nat} {M : DM}
theorem rowO_new (n : Nat) : rowO PT (List.replicate n []) = .cells (List.replicate n (.pointer none)).toArray PT (0, 0) := by
  simp [rowO, hp, hpT]
theorem chainsO_new (n : Nat) : chainsO ET (List.replicate n []) = [] := by
  unfold chainsO
  rw [List.flatMap_eq_nil_iff]
  intro c hc
  rw [(List.mem_replicate.1 hc).2]; rfl
theorem tabO_new (t n : Nat) (hn : 0 < n) : tabO ET PT t (List.replicate n []) = [(t, .cells (List.replicate n (.pointer none)).toArray PT (0, 0))] := by
  rw [tabO_of (replicate_ne hn), rowO_new, chainsO_new]
theorem tv_new (t n : Nat) (hn : 0 < n) : tv t (List.replicate n []) = .slice (some ⟨t, 0, none⟩) n n := by
  rw [tv_of (replicate_ne hn), List.length_replicate]
theorem alloc_at (w : World) (o : Obj) : (w.alloc o).heap[w.heap.size]? = some o := by
  unfold World.alloc
  exact Array.getElem?_push_size
/-- a first table is laid -/
theorem grow_old {n : Nat} {o : Obj} (h : Rep w (dictO ET PT DT d M)) (nd : Nd (dictO ET PT DT d M)) (ho : M.old = []) (hn : 0 < n) (ho' : o = .cells (List.replicate n (.pointer none)).toArray PT (0, 0)) :
    Rep ((w.alloc o).setCell ⟨d, 1, none⟩ (.slice (some ⟨w.heap.size, 0, none⟩) n n)) (dictO ET PT DT d { M with old := List.replicate n [], told := w.heap.size }) ∧
      Nd (dictO ET PT DT d { M with old := List.replicate n [], told := w.heap.size }) := by
  subst ho'
  have e1 : dictO ET PT DT d M = (d, fieldsO DT M) :: tabO ET PT M.tyoung M.young := by unfold dictO; rw [ho, tabO_nil]; rfl
  have e2 : dictO ET PT DT d { M with old := List.replicate n [], told := w.heap.size } = (d, fieldsO DT { M with old := List.replicate n [], told := w.heap.size }) :: ((w.heap.size, .cells (List.replicate n (.pointer none)).toArray PT (0, 0)) :: tabO ET PT M.tyoung M.young) := by
    unfold dictO; simp only; rw [tabO_new _ _ hn]; rfl
  rw [e1] at h nd
  rw [e2]
  obtain ⟨n1, n2⟩ := Nd.cons_iff.1 nd
  have hd : d < w.heap.size := h.lt (Bs.cons_iff.2 (.inl rfl))
  have hnb : ¬ Bs (tabO ET PT M.tyoung M.young) w.heap.size := fun hb => Nat.lt_irrefl _ (h.lt (Bs.cons_iff.2 (.inr hb)))
  have h1 := Rep.cons (alloc_at w (.cells (List.replicate n (.pointer none)).toArray PT (0, 0))) (h.alloc (.cells (List.replicate n (.pointer none)).toArray PT (0, 0)))
  have h2 := h1.perm (List.Perm.swap _ _ _)
  have hnn : ¬ Bs ((w.heap.size, Obj.cells (List.replicate n (.pointer none)).toArray PT (0, 0)) :: tabO ET PT M.tyoung M.young) d := by
    rw [Bs.cons_iff]; exact fun e => e.elim (fun e => by omega) n1
  have h3 := Rep.setHead (cs := #[.int .u64 (wd M.seed), tv M.told M.old, tv M.tyoung M.young, .int .i64 M.at_, .int .i64 M.n]) h2 1 (.slice (some ⟨w.heap.size, 0, none⟩) n n) hnn
  refine ⟨Rep.cons ?_ h3.tail, Nd.cons_iff.2 ⟨hnn, Nd.cons_iff.2 ⟨hnb, n2⟩⟩⟩
  rw [h3.head]
  unfold fieldsO
  simp only
  rw [tv_new _ _ hn]
  rfl
/-- a second table is laid -/
theorem grow_young {n : Nat} {o : Obj} (h : Rep w (dictO ET PT DT d M)) (nd : Nd (dictO ET PT DT d M)) (ho : M.young = []) (hn : 0 < n) (ho' : o = .cells (List.replicate n (.pointer none)).toArray PT (0, 0)) :
    Rep ((w.alloc o).setCell ⟨d, 2, none⟩ (.slice (some ⟨w.heap.size, 0, none⟩) n n)) (dictO ET PT DT d { M with young := List.replicate n [], tyoung := w.heap.size }) ∧
      Nd (dictO ET PT DT d { M with young := List.replicate n [], tyoung := w.heap.size }) := by
  subst ho'
  have e1 : dictO ET PT DT d M = (d, fieldsO DT M) :: tabO ET PT M.told M.old := by unfold dictO; rw [ho, tabO_nil, List.append_nil]
  have e2 : (dictO ET PT DT d { M with young := List.replicate n [], tyoung := w.heap.size }).Perm ((d, fieldsO DT { M with young := List.replicate n [], tyoung := w.heap.size }) :: ((w.heap.size, .cells (List.replicate n (.pointer none)).toArray PT (0, 0)) :: tabO ET PT M.told M.old)) := by
    unfold dictO; simp only; rw [tabO_new _ _ hn]; exact List.Perm.cons _ List.perm_append_comm
  rw [e1] at h nd
  obtain ⟨n1, n2⟩ := Nd.cons_iff.1 nd
  have hd : d < w.heap.size := h.lt (Bs.cons_iff.2 (.inl rfl))
  have hnb : ¬ Bs (tabO ET PT M.told M.old) w.heap.size := fun hb => Nat.lt_irrefl _ (h.lt (Bs.cons_iff.2 (.inr hb)))
  have h1 := Rep.cons (alloc_at w (.cells (List.replicate n (.pointer none)).toArray PT (0, 0))) (h.alloc (.cells (List.replicate n (.pointer none)).toArray PT (0, 0)))
  have h2 := h1.perm (List.Perm.swap _ _ _)
  have hnn : ¬ Bs ((w.heap.size, Obj.cells (List.replicate n (.pointer none)).toArray PT (0, 0)) :: tabO ET PT M.told M.old) d := by
    rw [Bs.cons_iff]; exact fun e => e.elim (fun e => by omega) n1
  have h3 := Rep.setHead (cs := #[.int .u64 (wd M.seed), tv M.told M.old, tv M.tyoung M.young, .int .i64 M.at_, .int .i64 M.n]) h2 2 (.slice (some ⟨w.heap.size, 0, none⟩) n n) hnn
  refine ⟨Rep.perm (Rep.cons ?_ h3.tail) e2.symm, Nd.perm (Nd.cons_iff.2 ⟨hnn, Nd.cons_iff.2 ⟨hnb, n2⟩⟩) e2.symm⟩
  rw [h3.head]
  unfold fieldsO
  simp only
  rw [tv_new _ _ hn]
  rfl
theorem addM_old (M : DM) (e : E) (h : M.young = []) : addM M e = { M with old := hangM M.seed M.old e, n := M.n + 1 } := by unfold addM; rw [if_pos h]
theorem addM_young (M : DM) (e : E) (h : M.young ≠ []) : addM M e = { M with young := hangM M.seed M.young e, n := M.n + 1 } := by unfold addM; rw [if_neg h]
theorem fields_of (M N : DM) (h1 : N.seed = M.seed) (h2 : N.told = M.told) (h3 : N.old.length = M.old.length) (h4 : N.tyoung = M.tyoung) (h5 : N.young.length = M.young.length) (h6 : N.at_ = M.at_) (h7 : N.n = M.n) :
    fieldsO DT N = fieldsO DT M := by
  unfold fieldsO
  rw [h1, h2, h4, h6, h7, tv_len M.told N.old M.old h3, tv_len M.tyoung N.young M.young h5]
/-- an entry is hung into the old table -/
theorem hang_old {e : E} {c : List E} {nx : Value} (h : Rep w ((e.b, entryObj ET e nx) :: dictO ET PT DT d M)) (nd : Nd ((e.b, entryObj ET e nx) :: dictO ET PT DT d M)) (hne : M.old ≠ [])
    (hc : M.old[slotOf M.seed M.old.length e.key]? = some c) :
    Rep ((w.setCell ⟨e.b, 1 + e.val.length, none⟩ (hp c)).setCell ⟨M.told, slotOf M.seed M.old.length e.key, none⟩ (.pointer (some ⟨e.b, 0, none⟩))) (dictO ET PT DT d { M with old := hangM M.seed M.old e }) ∧
      Nd (dictO ET PT DT d { M with old := hangM M.seed M.old e }) ∧ ∀ k, Bs (dictO ET PT DT d { M with old := hangM M.seed M.old e }) k ↔ Bs ((e.b, entryObj ET e nx) :: dictO ET PT DT d M) k := by
  have hl := hangM_length M.seed M.old e
  have hne2 : hangM M.seed M.old e ≠ [] := len_ne hl.symm hne
  have hf : fieldsO DT { M with old := hangM M.seed M.old e } = fieldsO DT M := fields_of M _ rfl rfl hl rfl rfl rfl rfl
  have hm := hangM_eq M.seed M.old e c hc
  have p1 : ((e.b, entryObj ET e nx) :: dictO ET PT DT d M).Perm (((d, fieldsO DT M) :: tabO ET PT M.tyoung M.young) ++ ((e.b, entryObj ET e nx) :: (M.told, rowO PT M.old) :: chainsO ET M.old)) := by
    unfold dictO
    rw [tabO_of hne]
    refine List.Perm.trans (List.Perm.cons _ (List.Perm.cons _ List.perm_append_comm)) ?_
    rw [← List.cons_append]
    exact List.perm_middle.symm
  have p2 : (dictO ET PT DT d { M with old := hangM M.seed M.old e }).Perm (((d, fieldsO DT M) :: tabO ET PT M.tyoung M.young) ++ ((M.told, rowO PT (hangM M.seed M.old e)) :: chainsO ET (hangM M.seed M.old e))) := by
    unfold dictO
    rw [hf]
    simp only
    rw [tabO_of hne2]
    exact List.Perm.cons _ List.perm_append_comm
  obtain ⟨r1, r2, r3⟩ := hang_rep (h.perm p1) (nd.perm p1) hc
  rw [← hm] at r1 r2 r3
  exact ⟨r1.perm p2.symm, r2.perm p2.symm, fun k => by rw [Bs.perm p2, Bs.perm p1]; exact r3 k⟩
/-- an entry is hung into the young table -/
theorem hang_young {e : E} {c : List E} {nx : Value} (h : Rep w ((e.b, entryObj ET e nx) :: dictO ET PT DT d M)) (nd : Nd ((e.b, entryObj ET e nx) :: dictO ET PT DT d M)) (hne : M.young ≠ [])
    (hc : M.young[slotOf M.seed M.young.length e.key]? = some c) :
    Rep ((w.setCell ⟨e.b, 1 + e.val.length, none⟩ (hp c)).setCell ⟨M.tyoung, slotOf M.seed M.young.length e.key, none⟩ (.pointer (some ⟨e.b, 0, none⟩))) (dictO ET PT DT d { M with young := hangM M.seed M.young e }) ∧
      Nd (dictO ET PT DT d { M with young := hangM M.seed M.young e }) ∧ ∀ k, Bs (dictO ET PT DT d { M with young := hangM M.seed M.young e }) k ↔ Bs ((e.b, entryObj ET e nx) :: dictO ET PT DT d M) k := by
  have hl := hangM_length M.seed M.young e
  have hne2 : hangM M.seed M.young e ≠ [] := len_ne hl.symm hne
  have hf : fieldsO DT { M with young := hangM M.seed M.young e } = fieldsO DT M := fields_of M _ rfl rfl rfl rfl hl rfl rfl
  have hm := hangM_eq M.seed M.young e c hc
  have p1 : ((e.b, entryObj ET e nx) :: dictO ET PT DT d M).Perm (((d, fieldsO DT M) :: tabO ET PT M.told M.old) ++ ((e.b, entryObj ET e nx) :: (M.tyoung, rowO PT M.young) :: chainsO ET M.young)) := by
    unfold dictO
    rw [tabO_of hne, ← List.cons_append]
    exact List.perm_middle.symm
  have e2 : dictO ET PT DT d { M with young := hangM M.seed M.young e } = ((d, fieldsO DT M) :: tabO ET PT M.told M.old) ++ ((M.tyoung, rowO PT (hangM M.seed M.young e)) :: chainsO ET (hangM M.seed M.young e)) := by
    unfold dictO
    rw [hf]
    simp only
    rw [tabO_of hne2]
    rfl
  obtain ⟨r1, r2, r3⟩ := hang_rep (h.perm p1) (nd.perm p1) hc
  rw [← hm] at r1 r2 r3
  rw [e2]
  exact ⟨r1, r2, fun k => by rw [Bs.perm p1]; exact r3 k⟩
/-- an entry is unlinked from the old table -/
theorem drop_old {i : Nat} {pre post : List E} {e : E} (h : Rep w (dictO ET PT DT d M)) (nd : Nd (dictO ET PT DT d M)) (hc : M.old[i]? = some (pre ++ e :: post)) :
    Rep (w.setCell (linkAt M.told i pre) (hp post)) (dictO ET PT DT d { M with old := delT M.old i pre post }) ∧ Nd (dictO ET PT DT d { M with old := delT M.old i pre post }) ∧
      (∀ k, Bs (dictO ET PT DT d { M with old := delT M.old i pre post }) k → Bs (dictO ET PT DT d M) k) ∧ Bs (dictO ET PT DT d M) (linkAt M.told i pre).block := by
  have hne : M.old ≠ [] := by intro h0; rw [h0] at hc; simp at hc
  have hl : (delT M.old i pre post).length = M.old.length := by simp [delT]
  have hne2 : delT M.old i pre post ≠ [] := len_ne hl.symm hne
  have hf : fieldsO DT { M with old := delT M.old i pre post } = fieldsO DT M := fields_of M _ rfl rfl hl rfl rfl rfl rfl
  have p1 : (dictO ET PT DT d M).Perm (((d, fieldsO DT M) :: tabO ET PT M.tyoung M.young) ++ ((M.told, rowO PT M.old) :: chainsO ET M.old)) := by
    unfold dictO
    rw [tabO_of hne]
    exact List.Perm.cons _ List.perm_append_comm
  have p2 : (dictO ET PT DT d { M with old := delT M.old i pre post }).Perm (((d, fieldsO DT M) :: tabO ET PT M.tyoung M.young) ++ ((M.told, rowO PT (delT M.old i pre post)) :: chainsO ET (delT M.old i pre post))) := by
    unfold dictO
    rw [hf]
    simp only
    rw [tabO_of hne2]
    exact List.Perm.cons _ List.perm_append_comm
  obtain ⟨r1, r2, r3, r4⟩ := tab_del (h.perm p1) (nd.perm p1) hc
  exact ⟨r1.perm p2.symm, r2.perm p2.symm, fun k hk => by rw [Bs.perm p1]; exact r3 k ((Bs.perm p2).1 hk), (Bs.perm p1).2 r4⟩
/-- an entry is unlinked from the young table -/
theorem drop_young {i : Nat} {pre post : List E} {e : E} (h : Rep w (dictO ET PT DT d M)) (nd : Nd (dictO ET PT DT d M)) (hc : M.young[i]? = some (pre ++ e :: post)) :
    Rep (w.setCell (linkAt M.tyoung i pre) (hp post)) (dictO ET PT DT d { M with young := delT M.young i pre post }) ∧ Nd (dictO ET PT DT d { M with young := delT M.young i pre post }) ∧
      (∀ k, Bs (dictO ET PT DT d { M with young := delT M.young i pre post }) k → Bs (dictO ET PT DT d M) k) ∧ Bs (dictO ET PT DT d M) (linkAt M.tyoung i pre).block := by
  have hne : M.young ≠ [] := by intro h0; rw [h0] at hc; simp at hc
  have hl : (delT M.young i pre post).length = M.young.length := by simp [delT]
  have hne2 : delT M.young i pre post ≠ [] := len_ne hl.symm hne
  have hf : fieldsO DT { M with young := delT M.young i pre post } = fieldsO DT M := fields_of M _ rfl rfl rfl rfl hl rfl rfl
  have e1 : dictO ET PT DT d M = ((d, fieldsO DT M) :: tabO ET PT M.told M.old) ++ ((M.tyoung, rowO PT M.young) :: chainsO ET M.young) := by
    unfold dictO; rw [tabO_of hne]; rfl
  have e2 : dictO ET PT DT d { M with young := delT M.young i pre post } = ((d, fieldsO DT M) :: tabO ET PT M.told M.old) ++ ((M.tyoung, rowO PT (delT M.young i pre post)) :: chainsO ET (delT M.young i pre post)) := by
    unfold dictO
    rw [hf]
    simp only
    rw [tabO_of hne2]; rfl
  rw [e1] at h nd ⊢
  rw [e2]
  exact tab_del h nd hc
end
end Go.Proofs.Ytgomilodeaafdaa
namespace Go.Proofs.Ytgomilodeaafdaa

/-- an entry of the plain list -/
abbrev En := ByteArray × Int
abbrev Pl := List En
def enPair (e : En) : ByteArray × List Value := (e.1, [.int .i64 e.2])
/-- the list and the table hold the same -/
structure Like (M : DM) (L : Pl) : Prop where
  inv : Inv M
  perm : (tb M).Perm (L.map enPair)
theorem Like.nodup {M : DM} {L : Pl} (h : Like M L) : (L.map (·.1)).Nodup := by
  have h1 : ((tb M).map (·.1)).Nodup := by rw [tb_keys]; exact h.inv.keys
  have h2 := (h.perm.map (·.1)).nodup_iff.1 h1
  rw [List.map_map] at h2
  exact h2
theorem Like.count {M : DM} {L : Pl} (h : Like M L) : M.n = L.length := by
  have := h.perm.length_eq
  rw [List.length_map] at this
  rw [h.inv.count, ← this]
  unfold tb; rw [List.length_map]
/-- the place of a key: the last one that bears it -/
def atOf (key : ByteArray) : Pl → Option Nat
  | [] => none
  | e :: l => match atOf key l with
    | some i => some (i + 1)
    | none => if e.1 = key then some 0 else none
theorem atOf_snoc (key : ByteArray) (l : Pl) (e : En) : atOf key (l ++ [e]) = if e.1 = key then some l.length else atOf key l := by
  induction l with
  | nil => simp [atOf]
  | cons a l ih =>
    simp only [List.cons_append, atOf, ih]
    by_cases h : e.1 = key
    · simp [h]
    · simp [h]
theorem atOf_none {key : ByteArray} {l : Pl} (h : atOf key l = none) : ∀ e ∈ l, e.1 ≠ key := by
  induction l with
  | nil => intro e he; cases he
  | cons a l ih =>
    intro e he
    unfold atOf at h
    cases h2 : atOf key l with
    | some i => rw [h2] at h; cases h
    | none =>
      rw [h2] at h
      simp only at h
      by_cases ha : a.1 = key
      · rw [if_pos ha] at h; cases h
      · rcases List.mem_cons.1 he with rfl | he
        · exact ha
        · exact ih h2 e he
theorem atOf_some {key : ByteArray} {l : Pl} {i : Nat} (h : atOf key l = some i) : ∃ x, l[i]? = some (key, x) := by
  induction l generalizing i with
  | nil => cases h
  | cons a l ih =>
    unfold atOf at h
    cases h2 : atOf key l with
    | some j =>
      rw [h2] at h
      simp only [Option.some.injEq] at h
      subst h
      obtain ⟨x, hx⟩ := ih h2
      exact ⟨x, by simpa using hx⟩
    | none =>
      rw [h2] at h
      simp only at h
      by_cases ha : a.1 = key
      · rw [if_pos ha] at h
        simp only [Option.some.injEq] at h
        subst h
        exact ⟨a.2, by rw [← ha]; rfl⟩
      · rw [if_neg ha] at h; cases h
theorem atOf_lt {key : ByteArray} {l : Pl} {i : Nat} (h : atOf key l = some i) : i < l.length := by
  obtain ⟨x, hx⟩ := atOf_some h
  exact (List.getElem?_eq_some_iff.1 hx).1

theorem perm_erase (l : Pl) (i : Nat) (e : En) (h : l[i]? = some e) : l.Perm (e :: l.eraseIdx i) := by
  induction l generalizing i with
  | nil => simp at h
  | cons a l ih =>
    cases i with
    | zero => simp only [List.getElem?_cons_zero, Option.some.injEq] at h; subst h; simp
    | succ i =>
      simp only [List.getElem?_cons_succ] at h
      simp only [List.eraseIdx_cons_succ]
      exact ((ih i h).cons a).trans (List.Perm.swap _ _ _)
theorem perm_set (l : Pl) (i : Nat) (e : En) (hi : i < l.length) : (l.set i e).Perm (e :: l.eraseIdx i) := by
  have h1 := perm_erase (l.set i e) i e (by simp [hi])
  have h2 : (l.set i e).eraseIdx i = l.eraseIdx i := by
    rw [List.eraseIdx_set_eq]
  rw [h2] at h1
  exact h1
theorem perm_swapdrop (l : Pl) (i : Nat) (hi : i < l.length) (z : En) (hz : l[l.length - 1]? = some z) : ((l.set i z).dropLast).Perm (l.eraseIdx i) := by
  obtain ⟨q, rfl⟩ : ∃ q, l = q ++ [z] := by
    have hne : l ≠ [] := by intro e; rw [e] at hi; simp at hi
    refine ⟨l.dropLast, ?_⟩
    have h1 := List.dropLast_concat_getLast hne
    have h2 : l.getLast hne = z := by
      rw [List.getLast_eq_getElem]
      have := (List.getElem?_eq_some_iff.1 hz).2
      exact this
    rw [h2] at h1
    exact h1.symm
  by_cases hq : i < q.length
  · rw [List.set_append_left _ _ hq, List.dropLast_concat, List.eraseIdx_append_of_lt_length hq]
    refine (perm_set q i z hq).trans ?_
    exact (List.perm_append_singleton z (q.eraseIdx i)).symm
  · have : i = q.length := by simp at hi; omega
    subst this
    rw [List.set_append_right _ _ (Nat.le_refl _), Nat.sub_self, List.eraseIdx_append_of_length_le (Nat.le_refl _)]
    simp
def setL (L : Pl) (key : ByteArray) (x : Int) : Pl := match atOf key L with
  | some i => L.set i (key, x)
  | none => L ++ [(key, x)]
def delL (L : Pl) (key : ByteArray) : Pl := match atOf key L with
  | some i => (L.set i (L.getD (L.length - 1) (key, 0))).dropLast
  | none => L
theorem Like.del {M : DM} {L : Pl} (h : Like M L) (key : ByteArray) : (tbDel key (tb M)).Perm ((match atOf key L with | some i => L.eraseIdx i | none => L).map enPair) := by
  have hk : ((tb M).map (·.1)).Nodup := by rw [tb_keys]; exact h.inv.keys
  cases ha : atOf key L with
  | some i =>
    obtain ⟨x, hx⟩ := atOf_some ha
    have hp := h.perm.trans ((perm_erase L i _ hx).map enPair)
    rw [List.map_cons] at hp
    exact tbDel_perm hp hk
  | none =>
    have hn := atOf_none ha
    have : tbDel key (tb M) = tb M := tbDel_none (fun x hx => by
      obtain ⟨e, he, rfl⟩ := List.mem_map.1 (h.perm.mem_iff.1 hx)
      exact hn e he)
    rw [this]
    exact h.perm
theorem Like.set {M : DM} {L : Pl} (h : Like M L) (key : ByteArray) (x : Int) (t b : Nat) : Like (setM M key [.int .i64 x] t b) (setL L key x) := by
  obtain ⟨h1, h2⟩ := set_inv h.inv key [.int .i64 x] t b
  refine ⟨h1, h2.trans ?_⟩
  have hd := h.del key
  unfold tbSet setL
  cases ha : atOf key L with
  | some i =>
    rw [ha] at hd
    have hp := (perm_set L i (key, x) (atOf_lt ha)).map enPair
    exact (hd.cons _).trans hp.symm
  | none =>
    rw [ha] at hd
    have hp := (List.perm_append_singleton (key, x) L).map enPair
    exact (hd.cons _).trans hp.symm
theorem Like.delete {M : DM} {L : Pl} (h : Like M L) (key : ByteArray) (t : Nat) : Like (delM M key t) (delL L key) := by
  obtain ⟨h1, h2⟩ := del_inv h.inv key t
  refine ⟨h1, h2.trans ?_⟩
  have hd := h.del key
  unfold delL
  cases ha : atOf key L with
  | some i =>
    rw [ha] at hd
    have hi := atOf_lt ha
    have hp := perm_swapdrop L i hi (L.getD (L.length - 1) (key, 0)) (by rw [List.getD_eq_getElem?_getD, List.getElem?_eq_getElem (by omega)]; rfl)
    exact hd.trans (hp.map enPair).symm
  | none => rw [ha] at hd; exact hd
theorem Like.step {M : DM} {L : Pl} (h : Like M L) : Like (stepM M) L := ⟨inv_step M h.inv, (tb_perm (step_perm M h.inv)).trans h.perm⟩
/-- is a key there? -/
def hasK (T : Tb) (key : ByteArray) : Bool := T.any fun x => decide (x.1 = key)
theorem hasK_perm {T U : Tb} (h : T.Perm U) (key : ByteArray) : hasK T key = hasK U key := by
  rw [Bool.eq_iff_iff]
  simp only [hasK, List.any_eq_true, decide_eq_true_eq]
  constructor
  · rintro ⟨x, h1, h2⟩; exact ⟨x, h.mem_iff.1 h1, h2⟩
  · rintro ⟨x, h1, h2⟩; exact ⟨x, h.mem_iff.2 h1, h2⟩
theorem Like.has {M : DM} {L : Pl} (h : Like M L) (key : ByteArray) : hasK (tb M) key = (atOf key L).isSome := by
  rw [hasK_perm h.perm]
  cases ha : atOf key L with
  | some i =>
    obtain ⟨x, hx⟩ := atOf_some ha
    simp only [hasK, List.any_eq_true, decide_eq_true_eq, Option.isSome_some]
    exact ⟨_, List.mem_map_of_mem (List.mem_of_getElem? hx), rfl⟩
  | none =>
    have hn := atOf_none ha
    rw [Option.isSome_none, Bool.eq_false_iff]
    simp only [hasK, ne_eq, List.any_eq_true, decide_eq_true_eq, not_exists, not_and]
    intro y hy hk
    obtain ⟨e, he, rfl⟩ := List.mem_map.1 hy
    exact hn e he hk
theorem Like.get {M : DM} {L : Pl} (h : Like M L) (key : ByteArray) : getM M key = (atOf key L).map fun i => [.int .i64 (L.getD i (key, 0)).2] := by
  cases ha : atOf key L with
  | some i =>
    obtain ⟨x, hx⟩ := atOf_some ha
    rw [Option.map_some, List.getD_eq_getElem?_getD, hx]
    exact (getM_some h.inv key _).2 (h.perm.mem_iff.2 (List.mem_map.2 ⟨(key, x), List.mem_of_getElem? hx, rfl⟩))
  | none =>
    have hn := atOf_none ha
    cases hg : getM M key with
    | none => rfl
    | some v =>
      obtain ⟨e, he, hee⟩ := List.mem_map.1 (h.perm.mem_iff.1 ((getM_some h.inv key v).1 hg))
      simp only [enPair, Prod.mk.injEq] at hee
      exact absurd hee.1 (hn e he)
/-- two tables that hold the same tell the same -/
theorem get_alike {M N : DM} (hM : Inv M) (hN : Inv N) (h : (tb M).Perm (tb N)) (key : ByteArray) : getM M key = getM N key := by
  cases h1 : getM M key with
  | some v => exact ((getM_some hN key v).2 (h.mem_iff.1 ((getM_some hM key v).1 h1))).symm
  | none =>
    cases h2 : getM N key with
    | none => rfl
    | some v =>
      have := (getM_some hM key v).2 (h.mem_iff.2 ((getM_some hN key v).1 h2))
      rw [h1] at this; cases this
theorem count_tb {M : DM} (h : Inv M) : M.n = (tb M).length := by rw [h.count]; unfold tb; rw [List.length_map]
end Go.Proofs.Ytgomilodeaafdaa
namespace Go.Proofs.Ytgomilodeaafdaa

theorem passM_stop (old : List (List E)) : ∀ k a, old[passM old k a]? = some [] → passM old k a = a + k := by
  intro k
  induction k with
  | zero => intro a _; rfl
  | succ k ih =>
    intro a h
    unfold passM at h ⊢
    split at h
    · rw [ih (a + 1) h]; omega
    · rename_i hs
      exact absurd h hs
/-- one step of a dict that moves -/
theorem step_cases {M : DM} (h : Inv M) (hy : M.young ≠ []) :
    ((stepM M).young = [] ∧ (stepM M).old.length = M.young.length ∧ (stepM M).at_ = 0) ∨
      ((stepM M).young ≠ [] ∧ (stepM M).old.length = M.old.length ∧ (stepM M).young.length = M.young.length ∧ M.at_ + 1 ≤ (stepM M).at_ ∧ (stepM M).at_ ≤ M.at_ + 11) := by
  rw [stepM_moving M hy]
  have hl := move_lens M (passM M.old 10 M.at_)
  obtain ⟨N, hN⟩ : ∃ N, N = moveM M (passM M.old 10 M.at_) := ⟨_, rfl⟩
  have hi := inv_move M h hy N hN
  have hprog : N.at_ = N.old.length ∨ M.at_ + 1 ≤ N.at_ := by
    rcases move_cases M (passM M.old 10 M.at_) with hc | ⟨e, r, hs, hc⟩
    · rw [hc] at hN
      cases hg : M.old[passM M.old 10 M.at_]? with
      | none =>
        left
        have h1 := passM_le M.old 10 M.at_ (by have := h.moving hy; omega)
        rw [List.getElem?_eq_none_iff] at hg
        rw [hN]; simp only; omega
      | some c =>
        cases c with
        | nil => right; rw [hN]; simp only; rw [passM_stop _ _ _ hg]; omega
        | cons e r =>
          exfalso
          have h2 : moveM M (passM M.old 10 M.at_) = { M with old := M.old.set (passM M.old 10 M.at_) [], young := (e :: r).foldl (hangM M.seed) M.young, at_ := passM M.old 10 M.at_ + 1 } := by unfold moveM; rw [hg]
          rw [hc] at h2
          have := congrArg DM.at_ h2
          simp at this
    · right
      rw [hc] at hN
      have := (passM_ge M.old 10 M.at_).1
      rw [hN]; simp only; omega
  rw [← hN] at hl ⊢
  have hyl : N.young ≠ [] := len_ne hl.2.1.symm hy
  by_cases he : N.at_ = N.old.length
  · rw [endM_pos N he]
    exact .inl ⟨rfl, hl.2.1, rfl⟩
  · rw [endM_neg N he]
    exact .inr ⟨hyl, hl.1, hl.2.1, hprog.resolve_left he, hi.2.2.2.2.2⟩
/-- in no call at goes on by more than 11, unless the moving ends -/
def Little (M N : DM) : Prop := (M.young ≠ [] → N.old.length = M.old.length → N.young.length = M.young.length → M.at_ ≤ N.at_ ∧ N.at_ ≤ M.at_ + 11) ∧ (M.young = [] → N.at_ = 0)
theorem little_step {M : DM} (h : Inv M) : Little M (stepM M) := by
  refine ⟨?_, fun hy => by rw [stepM_still M hy]; exact h.still hy⟩
  intro hy h1 h2
  rcases step_cases h hy with ⟨g1, _, _⟩ | ⟨_, _, _, g4, g5⟩
  · rw [g1] at h2; exact absurd (List.length_eq_zero_iff.1 h2.symm) hy
  · omega
theorem little_same {M N K : DM} (h : Little M N) (h1 : K.old.length = N.old.length) (h2 : K.young.length = N.young.length) (h3 : K.at_ = N.at_) : Little M K := by
  refine ⟨?_, fun hy => by rw [h3]; exact h.2 hy⟩
  intro hy g1 g2
  rw [h3]
  exact h.1 hy (h1 ▸ g1) (h2 ▸ g2)
theorem grow_at (M : DM) (t : Nat) : (growM M t).at_ = M.at_ := by
  unfold growM
  split
  · rfl
  · split <;> rfl
theorem old_of_young {M : DM} (h : Inv M) (hy : M.young ≠ []) : M.old ≠ [] := by
  intro h0; have := h.moving hy; rw [h0] at this; simp at this
theorem add_lens (M : DM) (e : E) : (addM M e).old.length = M.old.length ∧ (addM M e).young.length = M.young.length ∧ (addM M e).at_ = M.at_ := by
  unfold addM
  split
  · exact ⟨hangM_length _ _ _, rfl, rfl⟩
  · exact ⟨rfl, hangM_length _ _ _, rfl⟩
theorem grow_moving {M : DM} (h : Inv M) (hy : M.young ≠ []) (t : Nat) : growM M t = M := by
  unfold growM
  rw [if_neg (old_of_young h hy), if_neg (fun e => hy e.1)]
theorem little_set {M : DM} (h : Inv M) (key : ByteArray) (v : List Value) (t b : Nat) : Little M (setM M key v t b) := by
  unfold setM
  cases hput : putM (stepM M) key v with
  | some N =>
    obtain ⟨_, _, _, i4, i5, _, _, i8, _⟩ := inv_put (inv_step M h) key v hput
    exact little_same (little_step h) i4 i5 i8
  | none =>
    show Little M (addM (growM (stepM M) t) ⟨b, key, v⟩)
    have hal := add_lens (growM (stepM M) t) ⟨b, key, v⟩
    refine ⟨?_, fun hy => by rw [hal.2.2, grow_at, stepM_still M hy]; exact h.still hy⟩
    intro hy g1 g2
    rcases step_cases h hy with ⟨s1, s2, s3⟩ | ⟨s1, s2, s3, s4, s5⟩
    · exfalso
      rw [hal.1] at g1
      rw [hal.2.1] at g2
      have hpos := List.length_pos_iff.2 hy
      unfold growM at g1 g2
      by_cases ho : (stepM M).old = []
      · rw [ho] at s2; simp at s2; omega
      · rw [if_neg ho] at g1 g2
        by_cases hg : (stepM M).young = [] ∧ (stepM M).old.length ≤ (stepM M).n
        · rw [if_pos hg] at g1 g2
          simp only [List.length_replicate] at g2
          omega
        · rw [if_neg hg] at g1 g2
          rw [s1] at g2
          simp at g2
          omega
    · have hg := grow_moving (inv_step M h) s1 t
      rw [hg] at hal ⊢
      rw [hal.2.2]; omega
theorem little_del {M : DM} (h : Inv M) (key : ByteArray) (t : Nat) : Little M (delM M key t) := by
  unfold delM
  cases hd : dropM (stepM M) key with
  | none => exact little_step h
  | some N =>
    show Little M (shrinkM N t)
    obtain ⟨_, _, _, i4, i5, _, _, i8, _⟩ := inv_drop (inv_step M h) key hd
    unfold shrinkM
    by_cases hs : N.young = [] ∧ 4 < N.old.length ∧ 8 * N.n ≤ N.old.length
    · rw [if_pos hs]
      refine ⟨?_, fun hy => by show N.at_ = 0; rw [i8, stepM_still M hy]; exact h.still hy⟩
      intro hy g1 g2
      exfalso
      simp only [List.length_replicate] at g1 g2
      have hle := fitM_le N.n 64 4 (by omega)
      rcases step_cases h hy with ⟨s1, s2, s3⟩ | ⟨s1, s2, s3, s4, s5⟩
      · omega
      · rw [hs.1] at i5; simp at i5; exact s1 (List.length_eq_zero_iff.1 i5.symm)
    · rw [if_neg hs]
      exact little_same (little_step h) i4 i5 i8
/-- how a dict stands behind k steps of moving -/
def Gone (M N : DM) (k : Nat) : Prop := (M.young = [] → N.young = [] ∧ N.old.length = M.old.length) ∧
  (M.young ≠ [] → (N.young = [] ∧ N.old.length = M.young.length) ∨ (N.young ≠ [] ∧ N.old.length = M.old.length ∧ N.young.length = M.young.length ∧ M.at_ + k ≤ N.at_))
theorem gone_zero (M : DM) : Gone M M 0 := ⟨fun h => ⟨h, rfl⟩, fun h => .inr ⟨h, rfl, rfl, Nat.le_refl _⟩⟩
theorem gone_step {M N : DM} {k : Nat} (h : Gone M N k) (hN : Inv N) : Gone M (stepM N) (k + 1) := by
  refine ⟨fun hy => ?_, fun hy => ?_⟩
  · have := h.1 hy
    rw [stepM_still N this.1]; exact this
  · rcases h.2 hy with h1 | ⟨h1, h2, h3, h4⟩
    · rw [stepM_still N h1.1]; exact .inl h1
    · rcases step_cases hN h1 with ⟨s1, s2, s3⟩ | ⟨s1, s2, s3, s4, s5⟩
      · exact .inl ⟨s1, by omega⟩
      · exact .inr ⟨s1, by omega, by omega, by omega⟩
theorem gone_end {M N : DM} (h : Gone M N M.old.length) (hN : Inv N) : N.young = [] ∧ N.at_ = 0 ∧ ((M.young = [] ∧ N.old.length = M.old.length) ∨ (M.young ≠ [] ∧ N.old.length = M.young.length)) := by
  have key : N.young = [] ∧ ((M.young = [] ∧ N.old.length = M.old.length) ∨ (M.young ≠ [] ∧ N.old.length = M.young.length)) := by
    by_cases hy : M.young = []
    · have := h.1 hy; exact ⟨this.1, .inl ⟨hy, this.2⟩⟩
    · rcases h.2 hy with h1 | ⟨h1, h2, h3, h4⟩
      · exact ⟨h1.1, .inr ⟨hy, h1.2⟩⟩
      · have := hN.moving h1; omega
  exact ⟨key.1, hN.still key.1, key.2⟩

theorem set_seed {M : DM} (h : Inv M) (key : ByteArray) (v : List Value) (t b : Nat) : (setM M key v t b).seed = M.seed := by
  have hs := (step_lens M).2.2.1
  unfold setM
  cases hput : putM (stepM M) key v with
  | some N =>
    obtain ⟨_, _, _, _, _, i6, _⟩ := inv_put (inv_step M h) key v hput
    rw [← hs]; exact i6
  | none =>
    have hg := (grow_inv (inv_step M h) t).2.2.2.1
    show (addM (growM (stepM M) t) ⟨b, key, v⟩).seed = M.seed
    rw [← hs, ← hg]
    unfold addM
    split <;> rfl
theorem del_seed {M : DM} (h : Inv M) (key : ByteArray) (t : Nat) : (delM M key t).seed = M.seed := by
  have hs := (step_lens M).2.2.1
  unfold delM
  cases hd : dropM (stepM M) key with
  | none => exact hs
  | some N =>
    obtain ⟨_, _, _, _, _, i6, _⟩ := inv_drop (inv_step M h) key hd
    show (shrinkM N t).seed = M.seed
    rw [← hs, ← i6]
    unfold shrinkM
    split <;> rfl
/-- the buckets that may have keys -/
def opn (M : DM) : List (List E) := M.old.drop M.at_ ++ M.young
/-- the first bucket that has keys, from one on, round about -/
def pick (o : List (List E)) : Nat → Nat → List E
  | 0, _ => []
  | f + 1, i => match o[i]? with
    | some (e :: c) => e :: c
    | _ => pick o f ((i + 1) % o.length)
theorem pick_mem (o : List (List E)) : ∀ f i, pick o f i = [] ∨ pick o f i ∈ o := by
  intro f
  induction f with
  | zero => intro i; exact .inl rfl
  | succ f ih =>
    intro i
    unfold pick
    split
    · rename_i hs; exact .inr (List.mem_of_getElem? hs)
    · exact ih _
theorem pick_ne (o : List (List E)) (hpos : 0 < o.length) : ∀ f i j, i < o.length → j < f → (∃ c, o[(i + j) % o.length]? = some c ∧ c ≠ []) → pick o f i ≠ [] := by
  intro f
  induction f with
  | zero => intro i j _ hj; omega
  | succ f ih =>
    intro i j hi hj hc
    unfold pick
    split
    · exact List.cons_ne_nil _ _
    · rename_i hn
      cases j with
      | zero =>
        obtain ⟨c, hc1, hc2⟩ := hc
        rw [Nat.add_zero, Nat.mod_eq_of_lt hi] at hc1
        cases c with
        | nil => exact absurd rfl hc2
        | cons e c => exact absurd hc1 (hn e c)
      | succ j =>
        refine ih _ j (Nat.mod_lt _ hpos) (by omega) ?_
        rw [Nat.mod_add_mod, show i + 1 + j = i + (j + 1) by omega]
        exact hc
theorem pick_some (o : List (List E)) (i : Nat) (hi : i < o.length) (h : ∃ c ∈ o, c ≠ []) : pick o o.length i ≠ [] := by
  obtain ⟨c, hc, hne⟩ := h
  obtain ⟨m, hm, rfl⟩ := List.getElem_of_mem hc
  have hpos : 0 < o.length := by omega
  refine pick_ne o hpos o.length i ((m + o.length - i) % o.length) hi (Nat.mod_lt _ hpos) ⟨_, ?_, hne⟩
  rw [Nat.add_mod_mod, show i + (m + o.length - i) = m + o.length by omega, Nat.add_mod_right, Nat.mod_eq_of_lt hm]
  exact List.getElem?_eq_getElem hm
theorem pick_here (o : List (List E)) (f i : Nat) (e : E) (c : List E) (h : o[i]? = some (e :: c)) : pick o (f + 1) i = e :: c := by
  unfold pick; rw [h]
theorem opn_flatten {M : DM} (h : Inv M) : (opn M).flatten = entries M := by
  unfold opn entries
  rw [List.flatten_append]
  congr 1
  conv => rhs; rw [← List.take_append_drop M.at_ M.old, List.flatten_append]
  have : (M.old.take M.at_).flatten = [] := by
    rw [List.flatten_eq_nil_iff]
    intro c hc
    obtain ⟨i, hi, rfl⟩ := List.getElem_of_mem hc
    rw [List.length_take] at hi
    have := h.passed i (by omega)
    rw [List.getElem_take]
    rw [List.getElem?_eq_getElem (by omega)] at this
    exact Option.some.inj this
  rw [this, List.nil_append]
theorem opn_some {M : DM} (h : Inv M) (hn : M.n ≠ 0) : ∃ c ∈ opn M, c ≠ [] := by
  rw [h.count, ← opn_flatten h] at hn
  refine Classical.byContradiction fun hc => hn ?_
  have : (opn M).flatten = [] := by
    rw [List.flatten_eq_nil_iff]
    intro c hcm
    exact Classical.byContradiction fun hne => hc ⟨c, hcm, hne⟩
  rw [this]; rfl
/-- what is drawn for a number -/
def drawM (M : DM) (r : Nat) : ByteArray :=
  let c := pick (opn M) (opn M).length (r % (opn M).length)
  match c[r / (opn M).length % c.length]? with
  | some e => e.key
  | none => ⟨#[]⟩
theorem draw_there {M : DM} (h : Inv M) (hn : M.n ≠ 0) (r : Nat) : ∃ e ∈ entries M, drawM M r = e.key := by
  have hs := opn_some h hn
  have hpos : 0 < (opn M).length := by
    obtain ⟨c, hc, _⟩ := hs
    exact List.length_pos_of_mem hc
  have hne := pick_some (opn M) (r % (opn M).length) (Nat.mod_lt _ hpos) hs
  unfold drawM
  simp only
  generalize hc : pick (opn M) (opn M).length (r % (opn M).length) = c at *
  have hcm : c ∈ opn M := by
    rcases pick_mem (opn M) (opn M).length (r % (opn M).length) with h1 | h1
    · rw [hc] at h1; exact absurd h1 hne
    · rw [hc] at h1; exact h1
  have hcp := List.length_pos_iff.2 hne
  have hlt := Nat.mod_lt (r / (opn M).length) hcp
  rw [List.getElem?_eq_getElem hlt]
  exact ⟨_, by rw [← opn_flatten h]; exact List.mem_flatten.2 ⟨c, hcm, List.getElem_mem hlt⟩, rfl⟩
theorem draw_all {M : DM} (h : Inv M) (e : E) (he : e ∈ entries M) : ∃ r, r < (opn M).length * M.n ∧ drawM M r = e.key := by
  rw [← opn_flatten h] at he
  obtain ⟨c, hc, hec⟩ := List.mem_flatten.1 he
  obtain ⟨b, hb, rfl⟩ := List.getElem_of_mem hc
  obtain ⟨k, hk, hke⟩ := List.getElem_of_mem hec
  have hpos : 0 < (opn M).length := by omega
  refine ⟨k * (opn M).length + b, ?_, ?_⟩
  · have hkn : k + 1 ≤ M.n := by
      rw [h.count, ← opn_flatten h]
      have h1 := (List.sublist_flatten_of_mem hc).length_le
      omega
    calc k * (opn M).length + b < k * (opn M).length + (opn M).length := by omega
      _ = (opn M).length * (k + 1) := by rw [Nat.mul_add, Nat.mul_one, Nat.mul_comm]
      _ ≤ (opn M).length * M.n := Nat.mul_le_mul_left _ hkn
  · unfold drawM
    have e1 : (k * (opn M).length + b) % (opn M).length = b := by rw [Nat.mul_comm, Nat.mul_add_mod, Nat.mod_eq_of_lt hb]
    have e2 : (k * (opn M).length + b) / (opn M).length = k := by rw [Nat.mul_comm, Nat.mul_add_div hpos, Nat.div_eq_of_lt hb, Nat.add_zero]
    simp only
    rw [e1, e2]
    obtain ⟨f, hf⟩ : ∃ f, (opn M).length = f + 1 := ⟨(opn M).length - 1, by omega⟩
    obtain ⟨x, y, hxy⟩ : ∃ x y, (opn M)[b] = x :: y := by
      cases hz : (opn M)[b] with
      | nil => rw [hz] at hk; simp at hk
      | cons x y => exact ⟨x, y, rfl⟩
    have hp : pick (opn M) (opn M).length b = (opn M)[b] := by
      conv => lhs; rw [hf]
      rw [hxy]
      exact pick_here _ _ _ _ _ (by rw [List.getElem?_eq_getElem hb, hxy])
    rw [hp, Nat.mod_eq_of_lt hk, List.getElem?_eq_getElem hk]
    exact congrArg E.key hke
end Go.Proofs.Ytgomilodeaafdaa
namespace Go.Proofs.Ytgomilodeaafdaa
theorem has_of_mem {M : DM} {key : ByteArray} {u : List Value} (h : (key, u) ∈ tb M) : hasK (tb M) key = true := by
  simp only [hasK, List.any_eq_true, decide_eq_true_eq]
  exact ⟨_, h, rfl⟩
theorem has_step {M : DM} (h : Inv M) (key : ByteArray) : hasK (tb (stepM M)) key = hasK (tb M) key := hasK_perm (tb_perm (step_perm M h)) key
theorem no_has {M : DM} {key : ByteArray} (h : ∀ e ∈ entries M, e.key ≠ key) : hasK (tb M) key = false := by
  rw [Bool.eq_false_iff]
  simp only [hasK, ne_eq, List.any_eq_true, decide_eq_true_eq, not_exists, not_and]
  intro y hy hk
  obtain ⟨e, he, rfl⟩ := List.mem_map.1 hy
  exact h e he hk
/-- the key is new -/
theorem set_new {M : DM} (h : Inv M) (key : ByteArray) (v : List Value) (t b : Nat) (hk : hasK (tb M) key = false) : setM M key v t b = addM (growM (stepM M) t) ⟨b, key, v⟩ := by
  unfold setM
  cases hput : putM (stepM M) key v with
  | some N =>
    obtain ⟨_, _, ⟨u, hu⟩, _⟩ := inv_put (inv_step M h) key v hput
    have := has_of_mem hu
    rw [has_step h, hk] at this
    cases this
  | none => rfl
/-- the key is there: the tables are as a step leaves them -/
theorem set_there {M : DM} (h : Inv M) (key : ByteArray) (v : List Value) (t b : Nat) (hk : hasK (tb M) key = true) :
    (setM M key v t b).old.length = (stepM M).old.length ∧ (setM M key v t b).young.length = (stepM M).young.length ∧ (setM M key v t b).at_ = (stepM M).at_ ∧ (setM M key v t b).n = M.n := by
  unfold setM
  cases hput : putM (stepM M) key v with
  | some N =>
    obtain ⟨_, _, _, i4, i5, _, i7, i8, _⟩ := inv_put (inv_step M h) key v hput
    exact ⟨i4, i5, i8, by rw [i7, (step_lens M).2.2.2]⟩
  | none =>
    have := no_has (put_none (inv_step M h) key v hput).1
    rw [has_step h, hk] at this
    cases this
/-- how many buckets both tables have, and how far the old one has been moved -/
def Sz (M : DM) (a b c : Nat) : Prop := M.old.length = a ∧ M.young.length = b ∧ M.at_ = c
theorem Sz.young {M : DM} {a c : Nat} (h : Sz M a 0 c) : M.young = [] := List.length_eq_zero_iff.1 h.2.1
theorem sz_set_there {M : DM} (h : Inv M) (key : ByteArray) (v : List Value) (t b : Nat) (hk : hasK (tb M) key = true) {a : Nat} (hs : Sz M a 0 0) : Sz (setM M key v t b) a 0 0 := by
  obtain ⟨h1, h2, h3, _⟩ := set_there h key v t b hk
  rw [stepM_still M hs.young] at h1 h2 h3
  exact ⟨h1.trans hs.1, h2.trans hs.2.1, h3.trans hs.2.2⟩
theorem sz_set_first {M : DM} (h : Inv M) (key : ByteArray) (v : List Value) (t b : Nat) (hk : hasK (tb M) key = false) (hs : Sz M 0 0 0) : Sz (setM M key v t b) 4 0 0 := by
  rw [set_new h key v t b hk, stepM_still M hs.young]
  have ho : M.old = [] := List.length_eq_zero_iff.1 hs.1
  have hg : growM M t = { M with old := List.replicate 4 [], told := t } := by unfold growM; rw [if_pos ho]
  obtain ⟨h1, h2, h3⟩ := add_lens (growM M t) ⟨b, key, v⟩
  rw [hg] at h1 h2 h3 ⊢
  exact ⟨h1.trans (by simp), h2.trans hs.2.1, h3.trans hs.2.2⟩
theorem sz_set_few {M : DM} (h : Inv M) (key : ByteArray) (v : List Value) (t b : Nat) (hk : hasK (tb M) key = false) {a : Nat} (hs : Sz M a 0 0) (ha : M.n < a) : Sz (setM M key v t b) a 0 0 := by
  rw [set_new h key v t b hk, stepM_still M hs.young]
  have ho : ¬ M.old = [] := by intro e; have := hs.1; rw [e] at this; simp at this; omega
  have hg : growM M t = M := by unfold growM; rw [if_neg ho, if_neg (fun e => by have := hs.1; omega)]
  obtain ⟨h1, h2, h3⟩ := add_lens (growM M t) ⟨b, key, v⟩
  rw [hg] at h1 h2 h3 ⊢
  exact ⟨h1.trans hs.1, h2.trans hs.2.1, h3.trans hs.2.2⟩
/-- the table is full: a second one of twice as many buckets, in which the new key stands alone -/
theorem sz_set_full {M : DM} (h : Inv M) (key : ByteArray) (v : List Value) (t b : Nat) (hk : hasK (tb M) key = false) {a : Nat} (hs : Sz M a 0 0) (ha : 0 < a) (hn : a ≤ M.n) :
    Sz (setM M key v t b) a (2 * a) 0 ∧ (setM M key v t b).young[slotOf M.seed (2 * a) key]? = some [⟨b, key, v⟩] := by
  rw [set_new h key v t b hk, stepM_still M hs.young]
  have ho : ¬ M.old = [] := by intro e; have := hs.1; rw [e] at this; simp at this; omega
  have hg : growM M t = { M with young := List.replicate (2 * M.old.length) [], tyoung := t } := by unfold growM; rw [if_neg ho, if_pos ⟨hs.young, by have := hs.1; omega⟩]
  obtain ⟨h1, h2, h3⟩ := add_lens (growM M t) ⟨b, key, v⟩
  have hy : ¬ (growM M t).young = [] := by rw [hg]; exact replicate_ne (by have := hs.1; omega)
  refine ⟨?_, ?_⟩
  · rw [hg] at h1 h2 h3 ⊢
    exact ⟨h1.trans hs.1, h2.trans (by simp [hs.1]), h3.trans hs.2.2⟩
  · rw [addM_young _ _ hy, hg]
    show (hangM M.seed (List.replicate (2 * M.old.length) []) ⟨b, key, v⟩)[slotOf M.seed (2 * a) key]? = _
    have hl : slotOf M.seed (2 * a) key < 2 * a := slotOf_lt _ _ _ (by omega)
    rw [hs.1]
    have hc : (List.replicate (2 * a) ([] : List E))[slotOf M.seed (List.replicate (2 * a) ([] : List E)).length key]? = some [] := by
      rw [List.length_replicate, List.getElem?_replicate, if_pos hl]
    rw [hangM_eq M.seed _ ⟨b, key, v⟩ [] hc, List.length_replicate]
    rw [List.getElem?_set, if_pos rfl, if_pos (by rw [List.length_replicate]; exact hl)]
/-- the tables of a dict in which there were never more than K keys -/
def Lens (M : DM) (K : Nat) : Prop := M.old.length ≤ max 4 (2 * K) ∧ M.young.length ≤ max 4 (2 * K)
theorem Lens.mono {M : DM} {K J : Nat} (h : Lens M K) (hk : K ≤ J) : Lens M J := ⟨by have := h.1; omega, by have := h.2; omega⟩
theorem Lens.step {M : DM} {K : Nat} (h : Lens M K) : Lens (stepM M) K := by
  obtain ⟨h1, h2, _⟩ := step_lens M
  exact ⟨by have := h.1; have := h.2; omega, by have := h.2; omega⟩
theorem Lens.set {M : DM} {K : Nat} (h : Lens M K) (hi : Inv M) (hn : M.n ≤ K) (key : ByteArray) (v : List Value) (t b : Nat) : Lens (setM M key v t b) K := by
  have hs := h.step
  have hsn := (step_lens M).2.2.2
  cases hk : hasK (tb M) key with
  | true =>
    obtain ⟨h1, h2, _⟩ := set_there hi key v t b hk
    exact ⟨by rw [h1]; exact hs.1, by rw [h2]; exact hs.2⟩
  | false =>
    rw [set_new hi key v t b hk]
    obtain ⟨h1, h2, _⟩ := add_lens (growM (stepM M) t) ⟨b, key, v⟩
    unfold Lens
    rw [h1, h2]
    unfold growM
    split
    · exact ⟨by simp only [List.length_replicate]; omega, hs.2⟩
    · split
      · rename_i hc
        refine ⟨hs.1, ?_⟩
        simp only [List.length_replicate]
        have := hc.2
        omega
      · exact hs
theorem Lens.del {M : DM} {K : Nat} (h : Lens M K) (hi : Inv M) (hn : M.n ≤ K) (key : ByteArray) (t : Nat) : Lens (delM M key t) K := by
  have hs := h.step
  have hsn := (step_lens M).2.2.2
  unfold delM
  cases hd : dropM (stepM M) key with
  | none => exact hs
  | some N =>
    show Lens (shrinkM N t) K
    obtain ⟨_, _, _, i4, i5, _, i7, _⟩ := inv_drop (inv_step M hi) key hd
    unfold shrinkM
    split
    · refine ⟨by rw [i4]; exact hs.1, ?_⟩
      simp only [List.length_replicate]
      have := fitM_le N.n 64 4 (by omega)
      omega
    · exact ⟨by rw [i4]; exact hs.1, by rw [i5]; exact hs.2⟩
/-- what a call keeps: the seed, and a bound on the tables -/
def SL (M M' : DM) : Prop := M'.seed = M.seed ∧ ∀ K, Lens M K → M.n ≤ K → Lens M' K
theorem SL.refl (M : DM) : SL M M := ⟨rfl, fun _ h _ => h⟩
end Go.Proofs.Ytgomilodeaafdaa
namespace Go.Proofs.Ytgomilodeaafdaa
open Go.RowKit
theorem texts_at {w : World} {a : Option Addr} {cap : Nat} {l : List ByteArray} (h : RdC w 1 (.slice a l.length cap) l.length (l.map .string)) (k : Nat) (hk : k < l.length) :
    ∃ g off, a = some ⟨g, off, none⟩ ∧ w.cell? ⟨g, off + k, none⟩ = some (.string l[k]) := by
  obtain ⟨g, off, rfl, hc⟩ := h.at (by rw [List.length_map]; omega)
  exact ⟨g, off, rfl, hc k _ (by rw [List.getElem?_map, List.getElem?_eq_getElem hk]; rfl)⟩
theorem drewN_drewN (w : World) (m n : Nat) : (w.drewN m).drewN n = w.drewN (m + n) := by
  unfold World.drewN; simp only [Nat.add_assoc]
end Go.Proofs.Ytgomilodeaafdaa
namespace Go.Proofs.Ytgomilodeaafdaa
open Go.RowKit
def Keep (S : Nat → TypeId → Prop) (A B : World) : Prop := ∀ k cs t m, S k t → A.heap[k]? = some (.cells cs t m) → B.heap[k]? = some (.cells cs t m)
section
variable {S : Nat → TypeId → Prop} {A B C : World}
theorem Keep.refl (S : Nat → TypeId → Prop) (A : World) : Keep S A A := fun _ _ _ _ _ h => h
theorem Keep.trans (h : Keep S A B) (h' : Keep S B C) : Keep S A C := fun k cs t m hs hk => h' k cs t m hs (h k cs t m hs hk)
theorem Keep.of_fr {T : Nat → Prop} (h : Fr T A B) (hd : ∀ k cs t m, S k t → A.heap[k]? = some (.cells cs t m) → ¬ T k) : Keep S A B :=
  fun k cs t m hs hk => (h.block k (Array.getElem?_eq_some_iff.1 hk).1 (hd k cs t m hs hk)).trans hk
theorem Keep.mono {S' : Nat → TypeId → Prop} (h : Keep S A B) (hs : ∀ k t, S' k t → S k t) : Keep S' A B := fun k cs t m hk => h k cs t m (hs k t hk)
theorem Keep.put (S : Nat → TypeId → Prop) (W : World) (l : Nat) (o o' : Obj) (h : W.heap[l]? = some o) (ho : o.isCells = false) : Keep S W (W.putObj l o') := by
  intro k cs t m _ hk
  have hne : k ≠ l := by
    intro e
    subst e
    rw [h] at hk
    cases hk
    cases ho
  have hg := grownBy_putObj' W l o'
  exact (hg.block k (Array.getElem?_eq_some_iff.1 hk).1 (fun e => hne (Option.some.inj e))).trans hk
theorem Keep.putLoop (S : Nat → TypeId → Prop) (W : World) (l : Nat) (r : Loop) (o' : Obj) (h : W.heap[l]? = some (.loop r)) : Keep S W (W.putObj l o') := Keep.put S W l _ o' h rfl
theorem Late.trans {n0 : Nat} {A B C : World} (h : Late n0 A B) (h' : Late n0 B C) : Late n0 A C := fun k ds hk e => h' k ds hk (h k ds hk e)
theorem Late.of_others {A B : World} (n0 : Nat) (h : KeepsOthers A B) : Late n0 A B := fun k ds _ e => h.same k _ e rfl
theorem Late.putLoop (n0 : Nat) (W : World) (l : Nat) (r : Loop) (o' : Obj) (h : W.heap[l]? = some (.loop r)) : Late n0 W (W.putObj l o') := by
  intro k ds _ hk
  have hne : k ≠ l := by
    intro e
    subst e
    rw [h] at hk
    cases hk
  have hg := grownBy_putObj' W l o'
  exact (hg.block k (Array.getElem?_eq_some_iff.1 hk).1 (fun e => hne (Option.some.inj e))).trans hk
end
theorem chainT_cells {ET : TypeId} (c : List E) (tl : Value) : ∀ x ∈ chainT ET c tl, ∃ cs t, x.2 = .cells cs t (0, 0) := by
  induction c with
  | nil => intro x hx; cases hx
  | cons e c ih =>
    intro x hx
    rcases List.mem_cons.1 hx with rfl | hx
    · exact ⟨_, _, rfl⟩
    · exact ih x hx
theorem tabO_cells {ET PT : TypeId} (t : Nat) (cs : List (List E)) : ∀ x ∈ tabO ET PT t cs, ∃ cs t, x.2 = .cells cs t (0, 0) := by
  intro x hx
  unfold tabO at hx
  split at hx
  · cases hx
  · rcases List.mem_cons.1 hx with rfl | hx
    · exact ⟨_, _, rfl⟩
    · obtain ⟨c, _, hc⟩ := List.mem_flatMap.1 hx
      exact chainT_cells c _ x hc
theorem dictO_cells {ET PT DT : TypeId} (d : Nat) (M : DM) : ∀ x ∈ dictO ET PT DT d M, ∃ cs t, x.2 = .cells cs t (0, 0) := by
  intro x hx
  rcases List.mem_cons.1 hx with rfl | hx
  · exact ⟨_, _, rfl⟩
  · rcases List.mem_append.1 hx with hx | hx <;> exact tabO_cells _ _ x hx
theorem rep_keep {ET PT DT : TypeId} {A B : World} {d : Nat} {M : DM} (h : Rep A (dictO ET PT DT d M)) (hk : Keep (fun k _ => Bs (dictO ET PT DT d M) k) A B) : Rep B (dictO ET PT DT d M) := by
  intro x hx
  obtain ⟨cs, t, e⟩ := dictO_cells d M x hx
  have := h x hx
  rw [e] at this ⊢
  exact hk x.1 cs t _ (List.mem_map.2 ⟨x, hx, rfl⟩) this
end Go.Proofs.Ytgomilodeaafdaa
namespace Go.Proofs.Ytgomilodeaafdaa
section
variable {α : Type} {f : α → List Value}
/-- the list and the table hold the same -/
structure LikeG (f : α → List Value) (M : DM) (L : List (ByteArray × α)) : Prop where
  inv : Inv M
  perm : (tb M).Perm (L.map fun x => (x.1, f x.2))
/-- the place of a key -/
def fdG (key : ByteArray) : List (ByteArray × α) → Option Nat
  | [] => none
  | e :: l => if e.1 = key then some 0 else (fdG key l).map (· + 1)
theorem fdG_none {key : ByteArray} {l : List (ByteArray × α)} (h : fdG key l = none) : ∀ e ∈ l, e.1 ≠ key := by
  induction l with
  | nil => intro e he; cases he
  | cons a l ih =>
    intro e he
    unfold fdG at h
    split at h
    · cases h
    · rename_i ha
      rcases List.mem_cons.1 he with rfl | he
      · exact ha
      · exact ih (Option.map_eq_none_iff.1 h) e he
theorem fdG_some {key : ByteArray} {l : List (ByteArray × α)} {i : Nat} (h : fdG key l = some i) : ∃ x, l[i]? = some (key, x) := by
  induction l generalizing i with
  | nil => cases h
  | cons a l ih =>
    unfold fdG at h
    split at h
    · rename_i ha
      cases h
      exact ⟨a.2, by rw [← ha]; rfl⟩
    · cases h2 : fdG key l with
      | none => rw [h2] at h; cases h
      | some j =>
        rw [h2] at h
        simp only [Option.map_some, Option.some.injEq] at h
        subst h
        obtain ⟨x, hx⟩ := ih h2
        exact ⟨x, by simpa using hx⟩
theorem fdG_lt {key : ByteArray} {l : List (ByteArray × α)} {i : Nat} (h : fdG key l = some i) : i < l.length := by
  obtain ⟨x, hx⟩ := fdG_some h
  exact (List.getElem?_eq_some_iff.1 hx).1
theorem fdG_first {key : ByteArray} {l : List (ByteArray × α)} {i : Nat} (h : fdG key l = some i) : ∀ j e, j < i → l[j]? = some e → e.1 ≠ key := by
  induction l generalizing i with
  | nil => cases h
  | cons a l ih =>
    intro j e hj he
    unfold fdG at h
    split at h
    · cases h; omega
    · rename_i ha
      cases h2 : fdG key l with
      | none => rw [h2] at h; cases h
      | some i' =>
        rw [h2] at h
        simp only [Option.map_some, Option.some.injEq] at h
        subst h
        cases j with
        | zero => simp only [List.getElem?_cons_zero, Option.some.injEq] at he; subst he; exact ha
        | succ j => exact ih h2 j e (by omega) (by simpa using he)
theorem fdG_of {key : ByteArray} {l : List (ByteArray × α)} {i : Nat} {x : α} (hi : l[i]? = some (key, x)) (hf : ∀ j e, j < i → l[j]? = some e → e.1 ≠ key) : fdG key l = some i := by
  induction l generalizing i with
  | nil => simp at hi
  | cons a l ih =>
    unfold fdG
    cases i with
    | zero =>
      simp only [List.getElem?_cons_zero, Option.some.injEq] at hi
      rw [hi]; simp
    | succ i =>
      rw [if_neg (hf 0 a (by omega) rfl), ih (by simpa using hi) (fun j e hj he => hf (j + 1) e (by omega) (by simpa using he))]
      rfl
theorem fdG_no {key : ByteArray} {l : List (ByteArray × α)} (hf : ∀ e ∈ l, e.1 ≠ key) : fdG key l = none := by
  cases h : fdG key l with
  | none => rfl
  | some i =>
    obtain ⟨x, hx⟩ := fdG_some h
    exact absurd rfl (hf _ (List.mem_of_getElem? hx))
theorem permG_erase (l : List α) (i : Nat) (e : α) (h : l[i]? = some e) : l.Perm (e :: l.eraseIdx i) := by
  induction l generalizing i with
  | nil => simp at h
  | cons a l ih =>
    cases i with
    | zero => simp only [List.getElem?_cons_zero, Option.some.injEq] at h; subst h; simp
    | succ i =>
      simp only [List.getElem?_cons_succ] at h
      simp only [List.eraseIdx_cons_succ]
      exact ((ih i h).cons a).trans (List.Perm.swap _ _ _)
theorem permG_set (l : List α) (i : Nat) (e : α) (hi : i < l.length) : (l.set i e).Perm (e :: l.eraseIdx i) := by
  have h1 := permG_erase (l.set i e) i e (by simp [hi])
  have h2 : (l.set i e).eraseIdx i = l.eraseIdx i := by
    rw [List.eraseIdx_set_eq]
  rw [h2] at h1
  exact h1
def setG (L : List (ByteArray × α)) (key : ByteArray) (x : α) : List (ByteArray × α) := match fdG key L with
  | some i => L.set i (key, x)
  | none => L ++ [(key, x)]
def delG (L : List (ByteArray × α)) (key : ByteArray) : List (ByteArray × α) := match fdG key L with
  | some i => L.eraseIdx i
  | none => L
variable {M : DM} {L : List (ByteArray × α)}
theorem LikeG.nodup (h : LikeG f M L) : (L.map (·.1)).Nodup := by
  have h1 : ((tb M).map (·.1)).Nodup := by rw [tb_keys]; exact h.inv.keys
  have h2 := (h.perm.map (·.1)).nodup_iff.1 h1
  rw [List.map_map] at h2
  exact h2
theorem LikeG.count (h : LikeG f M L) : M.n = L.length := by
  have := h.perm.length_eq
  rw [List.length_map] at this
  rw [h.inv.count, ← this]
  unfold tb; rw [List.length_map]
theorem LikeG.keys (h : LikeG f M L) : ((entries M).map E.key).Perm (L.map (·.1)) := by
  have := h.perm.map (·.1)
  rw [tb_keys, List.map_map] at this
  exact this
theorem LikeG.of_perm {L' : List (ByteArray × α)} (h : LikeG f M L) (hp : L.Perm L') : LikeG f M L' := ⟨h.inv, h.perm.trans (hp.map _)⟩
theorem LikeG.del (h : LikeG f M L) (key : ByteArray) : (tbDel key (tb M)).Perm ((delG L key).map fun x => (x.1, f x.2)) := by
  have hk : ((tb M).map (·.1)).Nodup := by rw [tb_keys]; exact h.inv.keys
  unfold delG
  cases ha : fdG key L with
  | some i =>
    obtain ⟨x, hx⟩ := fdG_some ha
    have hp := h.perm.trans ((permG_erase L i _ hx).map fun x => (x.1, f x.2))
    rw [List.map_cons] at hp
    exact tbDel_perm hp hk
  | none =>
    have hn := fdG_none ha
    have : tbDel key (tb M) = tb M := tbDel_none (fun x hx => by
      obtain ⟨e, he, rfl⟩ := List.mem_map.1 (h.perm.mem_iff.1 hx)
      exact hn e he)
    rw [this]
    exact h.perm
theorem LikeG.set (h : LikeG f M L) (key : ByteArray) (x : α) (t b : Nat) : LikeG f (setM M key (f x) t b) (setG L key x) := by
  obtain ⟨h1, h2⟩ := set_inv h.inv key (f x) t b
  refine ⟨h1, h2.trans ?_⟩
  have hd := h.del key
  unfold tbSet setG
  unfold delG at hd
  cases ha : fdG key L with
  | some i =>
    rw [ha] at hd
    have hp := (permG_set L i (key, x) (fdG_lt ha)).map fun x => (x.1, f x.2)
    exact (hd.cons _).trans hp.symm
  | none =>
    rw [ha] at hd
    have hp := (List.perm_append_singleton (key, x) L).map fun x => (x.1, f x.2)
    exact (hd.cons _).trans hp.symm
theorem LikeG.delete (h : LikeG f M L) (key : ByteArray) (t : Nat) : LikeG f (delM M key t) (delG L key) := by
  obtain ⟨h1, h2⟩ := del_inv h.inv key t
  exact ⟨h1, h2.trans (h.del key)⟩
theorem LikeG.step (h : LikeG f M L) : LikeG f (stepM M) L := ⟨inv_step M h.inv, (tb_perm (step_perm M h.inv)).trans h.perm⟩
theorem LikeG.has (h : LikeG f M L) (key : ByteArray) : hasK (tb M) key = (fdG key L).isSome := by
  rw [hasK_perm h.perm]
  cases ha : fdG key L with
  | some i =>
    obtain ⟨x, hx⟩ := fdG_some ha
    simp only [hasK, List.any_eq_true, decide_eq_true_eq, Option.isSome_some]
    exact ⟨_, List.mem_map_of_mem (List.mem_of_getElem? hx), rfl⟩
  | none =>
    have hn := fdG_none ha
    rw [Option.isSome_none, Bool.eq_false_iff]
    simp only [hasK, ne_eq, List.any_eq_true, decide_eq_true_eq, not_exists, not_and]
    intro y hy hk
    obtain ⟨e, he, rfl⟩ := List.mem_map.1 hy
    exact hn e he hk
theorem LikeG.get_some (h : LikeG f M L) {key : ByteArray} {i : Nat} {x : α} (hi : L[i]? = some (key, x)) : getM M key = some (f x) :=
  (getM_some h.inv key _).2 (h.perm.mem_iff.2 (List.mem_map.2 ⟨(key, x), List.mem_of_getElem? hi, rfl⟩))
theorem LikeG.get_none (h : LikeG f M L) {key : ByteArray} (ha : fdG key L = none) : getM M key = none := by
  have hn := fdG_none ha
  cases hg : getM M key with
  | none => rfl
  | some v =>
    obtain ⟨e, he, hee⟩ := List.mem_map.1 (h.perm.mem_iff.1 ((getM_some h.inv key v).1 hg))
    simp only [Prod.mk.injEq] at hee
    exact absurd hee.1 (hn e he)
theorem inv_new (s : UInt64) : Inv ⟨s, 0, [], 0, [], 0, 0⟩ :=
  ⟨Placed.nil _, Placed.nil _, List.nodup_nil, fun h => absurd rfl h, fun h => absurd rfl h, fun h => absurd rfl h, fun _ => rfl, fun i h => absurd h (Nat.not_lt_zero i), rfl⟩
theorem LikeG.new (s : UInt64) : LikeG f ⟨s, 0, [], 0, [], 0, 0⟩ [] := ⟨inv_new s, List.Perm.refl _⟩
theorem fdG_nodup {key : ByteArray} {x : α} {i : Nat} (hn : (L.map (·.1)).Nodup) (hi : L[i]? = some (key, x)) : fdG key L = some i := by
  refine fdG_of hi fun j e hj he hk => ?_
  have hil := (List.getElem?_eq_some_iff.1 hi).1
  have h1 : (L.map (·.1))[j]'(by rw [List.length_map]; omega) = (L.map (·.1))[i]'(by rw [List.length_map]; omega) := by
    rw [List.getElem_map, List.getElem_map, (List.getElem?_eq_some_iff.1 he).2, (List.getElem?_eq_some_iff.1 hi).2, hk]
  have := (List.getElem_inj hn).1 h1
  omega
end
end Go.Proofs.Ytgomilodeaafdaa
namespace Go.Proofs.Ytgomilodeaafdaa
open Go.RowKit
def tabOf (M : DM) (table : Int) : List (List E) := if table = 1 then M.young else M.old
/-- the keys of a bucket -/
def bucketK (M : DM) (table i : Int) : List ByteArray := if (table = 0 ∨ table = 1) ∧ 0 ≤ i then (((tabOf M table)[i.toNat]?).getD []).map E.key else []
def SomeTexts (w : World) (l : List ByteArray) (e : Ending) (w' : World) : Prop :=
  ∃ v, e = .returned v ∧ w'.ownsRow w.heap.size 9 1 v l.length (l.map .string) ∧ Below w.heap.size w w'
theorem rows_apart {w : World} {B B' : Nat} {e e' : TypeId} {s s' n n' : Nat} {v v' : Value} {xs xs' : List Value} (h : w.ownsRow B e s v n xs) (h' : w.ownsRow B' e' s' v' n' xs') (he : e ≠ e') :
    ∀ g, v.ownBlock = some g → ¬ v'.ownBlock = some g := by
  intro g h1 h2
  rcases h.2 with ⟨rfl, _⟩ | ⟨g1, cap, cur, rfl, _, hg, _⟩
  · cases h1
  · cases h1
    rcases h'.2 with ⟨rfl, _⟩ | ⟨g2, cap2, cur2, rfl, _, hg2, _⟩
    · cases h2
    · cases h2
      rw [hg] at hg2
      simp only [Option.some.injEq, Obj.cells.injEq] at hg2
      exact he hg2.2.1
/-- a row of texts of its own -/
abbrev RowS (B : Nat) (w : World) (v : Value) (S : List ByteArray) : Prop := w.ownsRow B 9 1 v S.length (S.map .string)
theorem info_str : (Try.prog.info? 9).map (fun i => (i.zero, i.size, i.bytes)) = some (some (.string ⟨#[]⟩), 1, 16) := by kernel_rfl
theorem one_strs (l : List ByteArray) : ∀ u ∈ l.map Value.string, u.oneCell' = true := by
  intro u hu; obtain ⟨x, _, rfl⟩ := List.mem_map.1 hu; rfl
theorem any_snoc {α : Type} (p : α → Bool) (l : List α) (k : Nat) (h : k < l.length) : (l.take (k + 1)).any p = ((l.take k).any p || p l[k]) := by
  rw [List.take_succ_eq_append_getElem h, List.any_append]; simp
/-- append, at a step of a region that draws its order, from whatever slice -/
theorem step_append {P : Program} {w : World} {ops : Array Oper} {o : Oper} {a : Act} {K : Act → World → Prop} {Q : Exit → Act → World → Prop} {E : Prop} (hgd : o.guard = none) (s x : Operand) (t : TypeId)
    (ho : o.op = .call { callee := .builtin .append, args := #[s, x], argTypes := #[t, t] })
    (base : Nat) (e : TypeId) (i : TypeInfo) (z : Value) (size bytes : Nat) (ht : P.underlying t = some (.slice e)) (hi : P.info? e = some i) (hz : i.zero = some z)
    (hsize : i.size = size) (hby : i.bytes = bytes) (hzs : z.cells.size = size) (hsz : 0 < size)
    (v : Value) (n : Nat) (xs : List Value) (hs : a.eval s = v) (hown : w.ownsRow base e size v n xs)
    (xv : Value) (m : Nat) (news : List Value) (hx : a.eval x = xv) (hrd : RdC w size xv m news) (h1 : ∀ u ∈ news, u.oneCell' = true)
    (h63 : n + m ≤ maxLen) (hbytes : (n + m) * bytes ≤ 140737488355328) (hbase : base ≤ w.heap.size)
    (h : ∀ v' w', w'.ownsRow base e size v' (n + m) (xs ++ news) → w.grownBy w' v.ownBlock → K (a.put o.dst v') w') :
    if Region.wanted o (yielded ops a.tmps) = true then Oper.wp P o a w K Q else E := by
  have hw : Region.wanted o (yielded ops a.tmps) = true := by simp [Region.wanted, hgd]
  rw [if_pos hw]
  obtain ⟨hl, ad, cap, hxv, hmc, hcm, hnil, hcells⟩ := hrd
  cases ad with
  | some ad => exact wp_append_own w s x t ho base e i z size bytes ht hi hz hsize hby hzs hsz v n xs hs hown ad m cap news (hx.trans hxv) hl (hcells ad rfl) h1 h63 hbytes hbase fun v' w' h2 h3 _ => h v' w' h2 h3
  | none =>
    obtain ⟨rfl, rfl⟩ := hnil rfl
    have hn0 : news = [] := by simpa using hl
    subst hn0
    have hrun := run_append_owned_none (P := P) (w := w) (base := base) t o.type e i size ht hi v n xs hown
    have hg := h v w (by simpa using hown) ⟨rfl, rfl, rfl, Nat.le_refl _, fun _ _ _ => rfl⟩
    have he : a.eval x = .slice none 0 0 := hx.trans hxv
    unfold Oper.wp
    simp [execOp, ho, resolve, invoke, builtin, hs, he, hrun, Result.andThen]
    exact hg
/-- a block of one cell -/
def Bx (w : World) (b : Nat) (t : TypeId) (v : Value) : Prop := w.heap[b]? = some (.cells #[v] t (0, 0))
theorem Bx.cell {w : World} {b : Nat} {t : TypeId} {v : Value} (h : Bx w b t v) : w.cell? ⟨b, 0, none⟩ = some v := by rw [cell_of_blk h]; rfl
theorem Bx.free {w : World} {b : Nat} {t : TypeId} {v : Value} (h : Bx w b t v) : w.frozen? ⟨b, 0, none⟩ = false := free_of_blk h 0
theorem Bx.lt {w : World} {b : Nat} {t : TypeId} {v : Value} (h : Bx w b t v) : b < w.heap.size := (Array.getElem?_eq_some_iff.1 h).1
theorem Bx.fr {w w' : World} {b : Nat} {t : TypeId} {v : Value} (h : Bx w b t v) {S : Nat → Prop} (hf : Fr S w w') (hd : ¬ S b) : Bx w' b t v := (hf.block b h.lt hd).trans h
theorem Bx.set {w : World} {b : Nat} {t : TypeId} {v : Value} (h : Bx w b t v) (u : Value) : Bx (w.setCell ⟨b, 0, none⟩ u) b t u := heap_setCell_same w b 0 _ _ _ h
/-- a box is not a row of elements of another type -/
theorem Bx.not_row {w : World} {b : Nat} {t e : TypeId} {u : Value} (h : Bx w b t u) (hte : t ≠ e) {base size k : Nat} {v : Value} {xs : List Value} (hr : w.ownsRow base e size v k xs) : ¬ v.ownBlock = some b := by
  intro hg
  rcases hr.2 with ⟨rfl, _⟩ | ⟨g, cap, cur, rfl, _, hgb, _⟩
  · cases hg
  · cases hg
    have := Eq.trans (Eq.symm h) hgb
    simp only [Option.some.injEq, Obj.cells.injEq] at this
    exact hte this.2.1
theorem rowS_app {B : Nat} {w : World} {v : Value} {S K : List ByteArray} (h : w.ownsRow B 9 1 v (S.length + K.length) (S.map .string ++ K.map .string)) : RowS B w v (S ++ K) := by
  show World.ownsRow _ _ _ _ _ _ _
  rw [List.length_append, List.map_append]
  exact h
theorem bucketK_len {M : DM} (h : Inv M) (table i : Int) : (bucketK M table i).length ≤ M.n := by
  unfold bucketK
  split
  · rw [List.length_map, h.count]
    cases hc : (tabOf M table)[i.toNat]? with
    | none => simp
    | some c =>
      have h1 := (List.sublist_flatten_of_mem (List.mem_of_getElem? hc)).length_le
      have h2 : (tabOf M table).flatten.length ≤ (entries M).length := by
        unfold tabOf entries
        split <;> simp
      simp only [Option.getD_some]
      omega
  · simp
end Go.Proofs.Ytgomilodeaafdaa
namespace Go.Proofs.Ytgomilodeaafdaa
theorem tr_split (g s q : Nat) (hs : s ≤ g) : tr g q = 2 ^ s * tr (g - s) (q % 2 ^ (g - s)) + tr s (q / 2 ^ (g - s)) := by
  have e : q = 2 ^ (g - s) * (q / 2 ^ (g - s)) + q % 2 ^ (g - s) := (Nat.div_add_mod _ _).symm
  have h := tr_add (g - s) s (q % 2 ^ (g - s)) (q / 2 ^ (g - s)) (Nat.mod_lt _ (Nat.two_pow_pos _))
  rw [← e, Nat.sub_add_cancel hs] at h
  exact h
/-- the digits that the smaller table does not count are all 0 just at a multiple -/
theorem hi_zero (g s q : Nat) (hs : s ≤ g) : tr g q / 2 ^ s = 0 ↔ q % 2 ^ (g - s) = 0 := by
  rw [tr_split g s q hs, Nat.mul_add_div (Nat.two_pow_pos s), Nat.div_eq_of_lt (tr_lt s _), Nat.add_zero]
  constructor
  · intro h
    have h1 := congrArg (tr (g - s)) h
    rw [tr_tr, tr_zero, Nat.mod_mod] at h1
    exact h1
  · intro h; rw [h, tr_zero]
theorem lo_digits (g s c : Nat) (hs : s ≤ g) : c % 2 ^ s = tr s (tr g c / 2 ^ (g - s)) := by
  have h := tr_split g s (tr g c) hs
  rw [tr_tr] at h
  have h2 : (c % 2 ^ g) % 2 ^ s = tr s (tr g c / 2 ^ (g - s)) := by
    rw [h, Nat.mul_add_mod, Nat.mod_eq_of_lt (tr_lt s _)]
  rw [← h2, Nat.mod_mod_of_dvd _ (Nat.pow_dvd_pow 2 hs)]
/-- the end of the stretch of 2^r places in which a place lies -/
def en (r p : Nat) : Nat := (p / 2 ^ r + 1) * 2 ^ r
theorem en_gt (r p : Nat) : p < en r p := by
  unfold en
  have h := Nat.div_add_mod p (2 ^ r)
  have h2 := Nat.mod_lt p (Nat.two_pow_pos r)
  have : (p / 2 ^ r + 1) * 2 ^ r = 2 ^ r * (p / 2 ^ r) + 2 ^ r := by rw [Nat.add_mul, Nat.mul_comm, Nat.one_mul]
  omega
theorem en_le (g r p : Nat) (hr : r ≤ g) (hp : p < 2 ^ g) : en r p ≤ 2 ^ g := by
  unfold en
  have e : 2 ^ g = 2 ^ (g - r) * 2 ^ r := by rw [← Nat.pow_add, Nat.sub_add_cancel hr]
  have h : p / 2 ^ r < 2 ^ (g - r) := by rw [Nat.div_lt_iff_lt_mul (Nat.two_pow_pos r), ← e]; exact hp
  rw [e]
  exact Nat.mul_le_mul_right _ h
theorem en_mod (r p : Nat) : en r p % 2 ^ r = 0 := by unfold en; exact Nat.mul_mod_left _ _
theorem en_div (r p : Nat) : en r p / 2 ^ r = p / 2 ^ r + 1 := by unfold en; exact Nat.mul_div_cancel _ (Nat.two_pow_pos r)
theorem div_succ (r p : Nat) : (p + 1) / 2 ^ r = p / 2 ^ r + if (p + 1) % 2 ^ r = 0 then 1 else 0 := by
  rw [Nat.succ_div]
  simp only [Nat.dvd_iff_mod_eq_zero]
theorem en_hit (r p : Nat) (h : (p + 1) % 2 ^ r = 0) : en r p = p + 1 := by
  have h1 := div_succ r p
  rw [if_pos h] at h1
  unfold en
  rw [← h1]
  have := Nat.div_add_mod (p + 1) (2 ^ r)
  rw [h, Nat.add_zero, Nat.mul_comm] at this
  exact this
theorem en_miss (r p : Nat) (h : ¬ (p + 1) % 2 ^ r = 0) : en r (p + 1) = en r p := by
  unfold en
  rw [div_succ r p, if_neg h, Nat.add_zero]
section
variable {α : Type}
/-- the buckets of the places from p up to e -/
def blk (G : Nat → List α) (g p e : Nat) : List α := (List.range' p (e - p)).flatMap fun i => G (tr g i)
theorem blk_nil (G : Nat → List α) (g p : Nat) : blk G g p p = [] := by unfold blk; rw [Nat.sub_self]; rfl
theorem blk_snoc (G : Nat → List α) (g p q : Nat) (h : p ≤ q) : blk G g p (q + 1) = blk G g p q ++ G (tr g q) := by
  unfold blk
  rw [show q + 1 - p = (q - p) + 1 by omega, List.range'_concat, List.flatMap_append, List.flatMap_singleton, show p + 1 * (q - p) = q by omega]
theorem blk_append (G : Nat → List α) (g p q e : Nat) (h : p ≤ q) (h2 : q ≤ e) : blk G g p e = blk G g p q ++ blk G g q e := by
  unfold blk
  rw [← List.flatMap_append]
  congr 1
  have := List.range'_append (s := p) (m := q - p) (n := e - q) (step := 1)
  rw [Nat.one_mul, show p + (q - p) = q by omega, show q - p + (e - q) = e - p by omega] at this
  exact this.symm
/-- tables that are scanned: 2^g buckets in the greater one; stretches of 2^r places; how many keys are asked for -/
structure TB (α : Type) where
  g : Nat
  r : Nat
  cnt : Nat
  G : Nat → List α
  S : Nat → List α
def TB.pos (T : TB α) (c : Nat) : Nat := tr T.g c
def TB.turnC (T : TB α) (c : Nat) : Nat := if en T.r (tr T.g c) = 2 ^ T.g then 0 else tr T.g (en T.r (tr T.g c))
def TB.turnK (T : TB α) (c : Nat) : List α := T.S c ++ blk T.G T.g (tr T.g c) (en T.r (tr T.g c))
def TB.nxtF (T : TB α) : Nat → Nat → List α → Nat × List α
  | 0, c, l => (c, l)
  | f + 1, c, l => if T.turnC c = 0 ∨ T.cnt ≤ (l ++ T.turnK c).length then (T.turnC c, l ++ T.turnK c) else T.nxtF f (T.turnC c) (l ++ T.turnK c)
theorem TB.turn_pos (T : TB α) (c : Nat) (hr : T.r ≤ T.g) (h : T.turnC c ≠ 0) : tr T.g (T.turnC c) = en T.r (tr T.g c) ∧ en T.r (tr T.g c) < 2 ^ T.g := by
  have hl := en_le T.g T.r (tr T.g c) hr (tr_lt _ _)
  unfold TB.turnC at h ⊢
  by_cases he : en T.r (tr T.g c) = 2 ^ T.g
  · rw [if_pos he] at h; exact absurd rfl h
  · rw [if_neg he, tr_tr, Nat.mod_eq_of_lt (by omega)]
    exact ⟨rfl, by omega⟩
theorem TB.nxtF_fuel (T : TB α) (hr : T.r ≤ T.g) : ∀ f f' c l, 2 ^ T.g - tr T.g c ≤ f → 2 ^ T.g - tr T.g c ≤ f' → T.nxtF f c l = T.nxtF f' c l := by
  intro f
  induction f with
  | zero => intro f' c l h; have := tr_lt T.g c; omega
  | succ f ih =>
    intro f' c l h h'
    have hl := tr_lt T.g c
    cases f' with
    | zero => omega
    | succ f' =>
      unfold TB.nxtF
      by_cases hc : T.turnC c = 0 ∨ T.cnt ≤ (l ++ T.turnK c).length
      · rw [if_pos hc, if_pos hc]
      · rw [if_neg hc, if_neg hc]
        obtain ⟨h1, h2⟩ := T.turn_pos c hr (fun e => hc (.inl e))
        have := en_gt T.r (tr T.g c)
        exact ih f' _ _ (by rw [h1]; omega) (by rw [h1]; omega)
/-- what is told from a cursor on, behind what was told -/
def TB.nxt (T : TB α) (c : Nat) (l : List α) : Nat × List α := T.nxtF (2 ^ T.g) c l
theorem TB.nxt_eq (T : TB α) (hr : T.r ≤ T.g) (c : Nat) (l : List α) :
    T.nxt c l = if T.turnC c = 0 ∨ T.cnt ≤ (l ++ T.turnK c).length then (T.turnC c, l ++ T.turnK c) else T.nxt (T.turnC c) (l ++ T.turnK c) := by
  have hp := Nat.two_pow_pos T.g
  have e : T.nxt c l = T.nxtF (2 ^ T.g + 1) c l := T.nxtF_fuel hr _ _ c l (by omega) (by omega)
  rw [e]
  rfl
/-- how many keys the first n places have -/
def wt (f : Nat → Nat) (n : Nat) : Nat := ((List.range n).map f).sum
theorem wt_succ (f : Nat → Nat) (n : Nat) : wt f (n + 1) = wt f n + f n := by
  unfold wt
  rw [List.range_succ, List.map_append, List.sum_append]; simp
theorem wt_mono (f : Nat → Nat) {m n : Nat} (h : m ≤ n) : wt f m ≤ wt f n := by
  induction n with
  | zero => have : m = 0 := by omega
            subst this; exact Nat.le_refl _
  | succ n ih =>
    by_cases hm : m = n + 1
    · rw [hm]; exact Nat.le_refl _
    · rw [wt_succ]; have := ih (by omega); omega
theorem blk_len (G : Nat → List α) (g p e : Nat) (h : p ≤ e) : wt (fun i => (G (tr g i)).length) p + (blk G g p e).length = wt (fun i => (G (tr g i)).length) e := by
  obtain ⟨k, rfl⟩ : ∃ k, e = p + k := ⟨e - p, by omega⟩
  induction k with
  | zero => rw [Nat.add_zero, blk_nil]; rfl
  | succ k ih =>
    rw [← Nat.add_assoc, blk_snoc _ _ _ _ (by omega), wt_succ, List.length_append]
    have := ih (by omega)
    omega
end
/-- the places of a table are its buckets, each once -/
theorem tr_perm (g : Nat) : ((List.range (2 ^ g)).map (tr g)).Perm (List.range (2 ^ g)) := by
  have hn : ((List.range (2 ^ g)).map (tr g)).Nodup := by
    rw [List.nodup_iff_pairwise_ne, List.pairwise_map]
    refine List.Pairwise.imp_of_mem ?_ (List.nodup_iff_pairwise_ne.1 List.nodup_range)
    intro a b ha hb hab h
    have := congrArg (tr g) h
    rw [tr_tr, tr_tr, Nat.mod_eq_of_lt (List.mem_range.1 ha), Nat.mod_eq_of_lt (List.mem_range.1 hb)] at this
    exact hab this
  refine (List.perm_ext_iff_of_nodup hn List.nodup_range).2 (fun a => ?_)
  rw [List.mem_map, List.mem_range]
  constructor
  · rintro ⟨b, _, rfl⟩; exact tr_lt g b
  · intro ha
    exact ⟨tr g a, List.mem_range.2 (tr_lt g a), by rw [tr_tr, Nat.mod_eq_of_lt ha]⟩
theorem wt_tr (f : Nat → Nat) (g : Nat) : wt (fun i => f (tr g i)) (2 ^ g) = wt f (2 ^ g) := by
  unfold wt
  have h := (tr_perm g).map f
  rw [List.map_map] at h
  exact h.sum_nat
end Go.Proofs.Ytgomilodeaafdaa
namespace Go.Proofs.Ytgomilodeaafdaa
open Go.RowKit
theorem lg_pow (k : Nat) (h : k ≤ 62) : lg (2 ^ k : Nat) = k := lg_of _ k h (.inl (Int.le_refl _)) (by have := Nat.two_pow_pos k; omega)
def greatM (M : DM) : Nat := if M.young.length < M.old.length then M.old.length else M.young.length
def smallM (M : DM) : Nat := if M.young.length < M.old.length then M.young.length else M.old.length
def whichM (M : DM) : Nat := if M.young.length < M.old.length then 0 else 1
/-- a dict's tables as they are scanned -/
def scanT (M : DM) (cnt : Nat) : TB ByteArray :=
  ⟨Nat.log2 (greatM M), if smallM M = 0 then 0 else Nat.log2 (greatM M) - Nat.log2 (smallM M), cnt, fun q => bucketK M (whichM M : Nat) (q : Int), fun c => if smallM M = 0 then [] else bucketK M ((1 - whichM M : Nat) : Int) ((c % smallM M : Nat) : Int)⟩
/-- what a scan tells of a dict -/
def scanK (M : DM) (c : Nat) (count : Int) : Nat × List ByteArray := if M.old = [] then (0, []) else (scanT M (max count 1).toNat).nxt c []
theorem log2_pow (k : Nat) : Nat.log2 (2 ^ k) = k := by
  rw [Nat.log2_eq_iff (by have := Nat.two_pow_pos k; omega)]
  exact ⟨Nat.le_refl _, Nat.pow_lt_pow_right (by decide) (by omega)⟩
structure Tabs (M : DM) (g r : Nat) : Prop where
  great : greatM M = 2 ^ g
  lg : g = Nat.log2 (greatM M)
  small : (smallM M = 0 ∧ r = 0) ∨ ∃ s, smallM M = 2 ^ s ∧ s ≤ g ∧ r = g - s
  le : r ≤ g
theorem tabs {M : DM} (h : Inv M) (ho : M.old ≠ []) (cnt : Nat) : Tabs M (scanT M cnt).g (scanT M cnt).r := by
  obtain ⟨a, ha, hal⟩ := h.sold ho
  show Tabs M (Nat.log2 (greatM M)) (if smallM M = 0 then 0 else Nat.log2 (greatM M) - Nat.log2 (smallM M))
  by_cases hy : M.young = []
  · have e1 : greatM M = 2 ^ a := by unfold greatM; rw [hy, hal, if_pos (by simp; exact Nat.two_pow_pos a)]
    have e2 : smallM M = 0 := by unfold smallM; rw [hy, hal, if_pos (by simp; exact Nat.two_pow_pos a)]; rfl
    rw [e1, e2, log2_pow, if_pos rfl]
    exact ⟨e1, by rw [e1, log2_pow], .inl ⟨e2, rfl⟩, Nat.zero_le _⟩
  · obtain ⟨b, hb, hbl⟩ := h.syoung hy
    by_cases hlt : M.young.length < M.old.length
    · have e1 : greatM M = 2 ^ a := by unfold greatM; rw [if_pos hlt, hal]
      have e2 : smallM M = 2 ^ b := by unfold smallM; rw [if_pos hlt, hbl]
      have hab : b ≤ a := by
        rw [hal, hbl] at hlt
        exact Nat.le_of_lt ((Nat.pow_lt_pow_iff_right (by decide)).1 hlt)
      rw [e1, e2, log2_pow, log2_pow, if_neg (by have := Nat.two_pow_pos b; omega)]
      exact ⟨e1, by rw [e1, log2_pow], .inr ⟨b, e2, hab, rfl⟩, Nat.sub_le _ _⟩
    · have e1 : greatM M = 2 ^ b := by unfold greatM; rw [if_neg hlt, hbl]
      have e2 : smallM M = 2 ^ a := by unfold smallM; rw [if_neg hlt, hal]
      have hab : a ≤ b := by
        rw [hal, hbl] at hlt
        exact (Nat.pow_le_pow_iff_right (by decide : 1 < 2)).1 (show 2 ^ a ≤ 2 ^ b by omega)
      rw [e1, e2, log2_pow, log2_pow, if_neg (by have := Nat.two_pow_pos a; omega)]
      exact ⟨e1, by rw [e1, log2_pow], .inr ⟨a, e2, hab, rfl⟩, Nat.sub_le _ _⟩
/-- how many keys a table has -/
theorem wt_flat (cs : List (List E)) : wt (fun i => ((cs[i]?).getD []).length) cs.length = cs.flatten.length := by
  have h : ∀ n, n ≤ cs.length → wt (fun i => ((cs[i]?).getD []).length) n = (cs.take n).flatten.length := by
    intro n
    induction n with
    | zero => intro _; rfl
    | succ n ih =>
      intro hn
      rw [wt_succ, ih (by omega), List.take_succ_eq_append_getElem (by omega), List.flatten_append, List.length_append, List.getElem?_eq_getElem (by omega)]
      simp
  rw [h _ (Nat.le_refl _), List.take_length]
theorem buck_len (M : DM) (t i : Nat) (ht : t = 0 ∨ t = 1) : (bucketK M (t : Int) (i : Int)).length = (((tabOf M t)[i]?).getD []).length := by
  unfold bucketK
  rw [if_pos ⟨by omega, by omega⟩, List.length_map, Int.toNat_natCast]
theorem wt_congr (f g : Nat → Nat) (n : Nat) (h : ∀ i, i < n → f i = g i) : wt f n = wt g n := by
  unfold wt
  congr 1
  exact List.map_congr_left (fun i hi => h i (List.mem_range.1 hi))
/-- the keys of a table by its places -/
theorem wt_table (M : DM) (t k : Nat) (ht : t = 0 ∨ t = 1) (hk : (tabOf M t).length = 2 ^ k) : wt (fun i => (bucketK M (t : Int) (tr k i : Nat)).length) (2 ^ k) = (tabOf M t).flatten.length := by
  rw [wt_tr (fun q => (bucketK M (t : Int) (q : Nat)).length) k, ← wt_flat, hk]
  exact wt_congr _ _ _ (fun i _ => buck_len M t i ht)
theorem tabs_keys (M : DM) : (tabOf M (whichM M : Nat)).flatten.length + (tabOf M ((1 - whichM M : Nat) : Int)).flatten.length = (entries M).length := by
  unfold tabOf whichM entries
  rw [List.length_append]
  split <;> simp <;> omega
theorem great_len (M : DM) : (tabOf M (whichM M : Nat)).length = greatM M := by
  unfold tabOf whichM greatM
  split <;> simp
theorem small_len (M : DM) : (tabOf M ((1 - whichM M : Nat) : Int)).length = smallM M := by
  unfold tabOf whichM smallM
  split <;> simp
theorem which_01 (M : DM) : whichM M = 0 ∨ whichM M = 1 := by unfold whichM; split <;> simp
/-- the keys of the smaller table's first places -/
def wS (M : DM) (n : Nat) : Nat := if smallM M = 0 then 0 else wt (fun i => (bucketK M ((1 - whichM M : Nat) : Int) (tr (Nat.log2 (smallM M)) i : Nat)).length) n
def wG (M : DM) (g n : Nat) : Nat := wt (fun i => (bucketK M (whichM M : Nat) (tr g i : Nat)).length) n
theorem w_bound {M : DM} {g r : Nat} (h : Inv M) (T : Tabs M g r) {p q : Nat} (hp : p ≤ 2 ^ g) (hq : q ≤ 2 ^ (g - r)) : wG M g p + wS M q ≤ M.n := by
  have h1 : wG M g p ≤ (tabOf M (whichM M : Nat)).flatten.length := by
    rw [← wt_table M (whichM M) g (which_01 M) (by rw [great_len, T.great])]
    exact wt_mono _ hp
  have h2 : wS M q ≤ (tabOf M ((1 - whichM M : Nat) : Int)).flatten.length := by
    unfold wS
    split
    · exact Nat.zero_le _
    · rename_i hs
      rcases T.small with ⟨e, _⟩ | ⟨s, e, hsg, er⟩
      · exact absurd e hs
      · rw [e, log2_pow]
        have h01 : 1 - whichM M = 0 ∨ 1 - whichM M = 1 := by have := which_01 M; omega
        rw [← wt_table M (1 - whichM M) s h01 (by rw [small_len, e])]
        refine wt_mono _ ?_
        rw [er, Nat.sub_sub_self hsg] at hq
        exact hq
  have := tabs_keys M
  rw [h.count]
  omega
theorem wS_step {M : DM} {g r : Nat} (T : Tabs M g r) (c : Nat) (hs : smallM M ≠ 0) : wS M (tr g c / 2 ^ r) + (bucketK M ((1 - whichM M : Nat) : Int) ((c % smallM M : Nat) : Int)).length = wS M (tr g c / 2 ^ r + 1) := by
  rcases T.small with ⟨e, _⟩ | ⟨s, e, hsg, er⟩
  · exact absurd e hs
  · unfold wS
    rw [if_neg hs, if_neg hs, wt_succ, e, log2_pow, lo_digits g s c hsg, er]
end Go.Proofs.Ytgomilodeaafdaa
namespace Go.Proofs.Ytgomilodeaafdaa
theorem flatMap_same {β γ : Type} {l : List β} {f g : β → List γ} (h : ∀ x, x ∈ l → f x = g x) : l.flatMap f = l.flatMap g := by
  induction l with
  | nil => rfl
  | cons x l ih => rw [List.flatMap_cons, List.flatMap_cons, h x (List.mem_cons_self ..), ih (fun y hy => h y (List.mem_cons_of_mem _ hy))]
section
variable {α : Type}
/-- the j-th stretch, told in one turn -/
def TB.turnJ (T : TB α) (j : Nat) : List α := T.S (tr T.g (j * 2 ^ T.r)) ++ blk T.G T.g (j * 2 ^ T.r) ((j + 1) * 2 ^ T.r)
def TB.J (T : TB α) : Nat := 2 ^ (T.g - T.r)
/-- the cursor ahead of the j-th stretch; 0 behind the last -/
def TB.cur (T : TB α) (j : Nat) : Nat := if j = T.J then 0 else tr T.g (j * 2 ^ T.r)
def TB.seg (T : TB α) (i j : Nat) : List α := (List.range' i (j - i)).flatMap T.turnJ
theorem TB.J_mul (T : TB α) (hr : T.r ≤ T.g) : T.J * 2 ^ T.r = 2 ^ T.g := by unfold TB.J; rw [← Nat.pow_add, Nat.sub_add_cancel hr]
theorem TB.at_lt (T : TB α) (hr : T.r ≤ T.g) {j : Nat} (hj : j < T.J) : j * 2 ^ T.r < 2 ^ T.g := by
  rw [← T.J_mul hr]; exact Nat.mul_lt_mul_of_pos_right hj (Nat.two_pow_pos _)
theorem en_at (r j : Nat) : en r (j * 2 ^ r) = (j + 1) * 2 ^ r := by unfold en; rw [Nat.mul_div_cancel _ (Nat.two_pow_pos r)]
theorem TB.turn_at (T : TB α) (hr : T.r ≤ T.g) {j : Nat} (hj : j < T.J) : T.turnK (tr T.g (j * 2 ^ T.r)) = T.turnJ j ∧ T.turnC (tr T.g (j * 2 ^ T.r)) = T.cur (j + 1) := by
  have hl := T.at_lt hr hj
  unfold TB.turnK TB.turnC TB.turnJ TB.cur
  rw [tr_tr, Nat.mod_eq_of_lt hl, en_at]
  refine ⟨rfl, ?_⟩
  by_cases h : j + 1 = T.J
  · rw [if_pos h, if_pos (by rw [h]; exact T.J_mul hr)]
  · rw [if_neg h, if_neg]
    intro e
    rw [← T.J_mul hr] at e
    exact h (Nat.eq_of_mul_eq_mul_right (Nat.two_pow_pos _) e)
theorem TB.seg_succ (T : TB α) {i j : Nat} (h : i < j) : T.seg i j = T.turnJ i ++ T.seg (i + 1) j := by
  unfold TB.seg
  rw [show j - i = (j - (i + 1)) + 1 by omega, List.range'_succ, List.flatMap_cons]
theorem TB.seg_nil (T : TB α) (i : Nat) : T.seg i i = [] := by unfold TB.seg; rw [Nat.sub_self]; rfl
theorem TB.seg_append (T : TB α) {i j k : Nat} (h : i ≤ j) (h2 : j ≤ k) : T.seg i k = T.seg i j ++ T.seg j k := by
  unfold TB.seg
  rw [← List.flatMap_append]
  congr 1
  have := List.range'_append (s := i) (m := j - i) (n := k - j) (step := 1)
  rw [Nat.one_mul, show i + (j - i) = j by omega, show j - i + (k - j) = k - i by omega] at this
  exact this.symm
theorem cur_pos (T : TB α) (hr : T.r ≤ T.g) {j : Nat} (hj : j ≤ T.J) (h : T.cur j ≠ 0) : j < T.J ∧ T.cur j = tr T.g (j * 2 ^ T.r) := by
  unfold TB.cur at h ⊢
  by_cases he : j = T.J
  · rw [if_pos he] at h; exact absurd rfl h
  · rw [if_neg he]; exact ⟨by omega, rfl⟩
theorem cur_zero (T : TB α) (hr : T.r ≤ T.g) {j : Nat} (hj : j ≤ T.J) (h0 : 0 < j) (h : T.cur j = 0) : j = T.J := by
  unfold TB.cur at h
  by_cases he : j = T.J
  · exact he
  · rw [if_neg he] at h
    have hl := T.at_lt hr (show j < T.J by omega)
    have := congrArg (tr T.g) h
    rw [tr_tr, tr_zero, Nat.mod_eq_of_lt hl] at this
    have hp : 0 < j * 2 ^ T.r := Nat.mul_pos h0 (Nat.two_pow_pos _)
    omega
/-- from the j-th stretch on: whole stretches, at least one -/
theorem TB.nxt_seg (T : TB α) (hr : T.r ≤ T.g) : ∀ n j, T.J - j = n → j < T.J → ∀ l, ∃ j', j < j' ∧ j' ≤ T.J ∧ T.nxt (tr T.g (j * 2 ^ T.r)) l = (T.cur j', l ++ T.seg j j') ∧ (j' < T.J → T.cnt ≤ (l ++ T.seg j j').length) := by
  intro n
  induction n with
  | zero => intro j h hj; omega
  | succ n ih =>
    intro j h hj l
    obtain ⟨e1, e2⟩ := T.turn_at hr hj
    have hs : T.seg j (j + 1) = T.turnJ j := by rw [T.seg_succ (by omega), T.seg_nil, List.append_nil]
    rw [T.nxt_eq hr, e1, e2]
    by_cases hc : T.cur (j + 1) = 0 ∨ T.cnt ≤ (l ++ T.turnJ j).length
    · rw [if_pos hc]
      refine ⟨j + 1, by omega, by omega, by rw [hs], fun hlt => ?_⟩
      rw [hs]
      rcases hc with hc | hc
      · exact absurd (cur_zero T hr (by omega) (by omega) hc) (by omega)
      · exact hc
    · rw [if_neg hc]
      obtain ⟨hj1, hcur⟩ := cur_pos T hr (show j + 1 ≤ T.J by omega) (fun e => hc (.inl e))
      rw [hcur]
      obtain ⟨j', g1, g2, g3, g4⟩ := ih (j + 1) (by omega) hj1 (l ++ T.turnJ j)
      have hcat : l ++ T.turnJ j ++ T.seg (j + 1) j' = l ++ T.seg j j' := by rw [T.seg_succ (show j < j' by omega), List.append_assoc]
      exact ⟨j', by omega, g2, by rw [g3, hcat], fun hlt => by rw [← hcat]; exact g4 hlt⟩
theorem flatMap_two {β γ : Type} (l : List β) (f g : β → List γ) : (l.flatMap fun x => f x ++ g x).Perm (l.flatMap f ++ l.flatMap g) := by
  induction l with
  | nil => exact List.Perm.refl _
  | cons x l ih =>
    simp only [List.flatMap_cons]
    refine ((List.Perm.append_left (f x ++ g x) ih)).trans ?_
    rw [List.append_assoc, List.append_assoc]
    refine List.Perm.append_left (f x) ?_
    rw [← List.append_assoc, ← List.append_assoc]
    exact List.Perm.append_right _ List.perm_append_comm
theorem blk_seg (G : Nat → List α) (g r : Nat) : ∀ n j, (List.range' j n).flatMap (fun i => blk G g (i * 2 ^ r) ((i + 1) * 2 ^ r)) = blk G g (j * 2 ^ r) ((j + n) * 2 ^ r) := by
  intro n
  induction n with
  | zero => intro j; rw [Nat.add_zero, blk_nil]; rfl
  | succ n ih =>
    intro j
    rw [List.range'_succ, List.flatMap_cons, ih (j + 1), ← blk_append _ _ _ _ _ (Nat.mul_le_mul_right _ (by omega)) (Nat.mul_le_mul_right _ (by omega)), show j + 1 + n = j + (n + 1) by omega]
theorem blk_all (G : Nat → List α) (g : Nat) : (blk G g 0 (2 ^ g)).Perm ((List.range (2 ^ g)).flatMap G) := by
  unfold blk
  rw [Nat.sub_zero, ← List.range_eq_range']
  have h := (tr_perm g).flatMap_right G
  rw [List.flatMap_map] at h
  exact h
end
theorem flat_keys (M : DM) (t : Nat) (ht : t = 0 ∨ t = 1) : (List.range (tabOf M t).length).flatMap (fun q : Nat => bucketK M (t : Int) (q : Int)) = (tabOf M t).flatten.map E.key := by
  have h : ∀ n, n ≤ (tabOf M t).length → (List.range n).flatMap (fun q : Nat => bucketK M (t : Int) (q : Int)) = ((tabOf M t).take n).flatten.map E.key := by
    intro n
    induction n with
    | zero => intro _; rfl
    | succ n ih =>
      intro hn
      rw [List.range_succ, List.flatMap_append, ih (by omega), List.take_succ_eq_append_getElem (by omega), List.flatten_append, List.map_append]
      congr 1
      rw [List.flatMap_cons, List.flatMap_nil, List.append_nil, List.flatten_cons, List.flatten_nil, List.append_nil]
      unfold bucketK
      rw [if_pos ⟨by omega, by omega⟩, Int.toNat_natCast, List.getElem?_eq_getElem (by omega)]
      rfl
  rw [h _ (Nat.le_refl _), List.take_length]
/-- all stretches together: each key once -/
theorem seg_all {M : DM} (h : Inv M) (ho : M.old ≠ []) (cnt : Nat) : ((scanT M cnt).seg 0 (scanT M cnt).J).Perm ((entries M).map E.key) := by
  have T := tabs h ho cnt
  obtain ⟨B, hB⟩ : ∃ B, scanT M cnt = B := ⟨_, rfl⟩
  have hG : B.G = fun q : Nat => bucketK M (whichM M : Nat) (q : Int) := by rw [← hB]; rfl
  have hS : ∀ c : Nat, B.S c = if smallM M = 0 then [] else bucketK M ((1 - whichM M : Nat) : Int) ((c % smallM M : Nat) : Int) := fun q => by rw [← hB]; rfl
  rw [hB] at T ⊢
  have hJ := B.J_mul T.le
  unfold TB.seg TB.turnJ
  rw [Nat.sub_zero]
  refine (flatMap_two _ _ _).trans ?_
  rw [blk_seg B.G B.g B.r B.J 0, Nat.zero_mul, Nat.zero_add, hJ]
  have hgreat : (blk B.G B.g 0 (2 ^ B.g)).Perm ((tabOf M (whichM M : Nat)).flatten.map E.key) := by
    have h1 := blk_all B.G B.g
    have h2 := flat_keys M (whichM M) (which_01 M)
    rw [great_len, T.great, ← hG] at h2
    rw [h2] at h1
    exact h1
  have hsmall : ((List.range' 0 B.J).flatMap fun j => B.S (tr B.g (j * 2 ^ B.r))).Perm ((tabOf M ((1 - whichM M : Nat) : Int)).flatten.map E.key) := by
    have h01 : 1 - whichM M = 0 ∨ 1 - whichM M = 1 := by have := which_01 M; omega
    rcases T.small with ⟨e, er⟩ | ⟨s, e, hsg, er⟩
    · have e0 : (tabOf M ((1 - whichM M : Nat) : Int)) = [] := List.length_eq_zero_iff.1 (by rw [small_len, e])
      rw [e0]
      have : ((List.range' 0 B.J).flatMap fun j => B.S (tr B.g (j * 2 ^ B.r))) = [] := by
        rw [List.flatMap_eq_nil_iff]
        intro j _
        rw [hS, if_pos e]
      rw [this]
      exact List.Perm.refl _
    · have hsz : smallM M ≠ 0 := by rw [e]; have := Nat.two_pow_pos s; omega
      have hJs : B.J = 2 ^ s := by unfold TB.J; rw [er, Nat.sub_sub_self hsg]
      have hf : ((List.range' 0 B.J).flatMap fun j => B.S (tr B.g (j * 2 ^ B.r))) = blk (fun q : Nat => bucketK M ((1 - whichM M : Nat) : Int) (q : Int)) s 0 (2 ^ s) := by
        unfold blk
        rw [Nat.sub_zero, hJs]
        refine flatMap_same (fun j hj => ?_)
        have hjl : j < 2 ^ s := by have := List.mem_range'.1 hj; omega
        have hjg : j * 2 ^ B.r < 2 ^ B.g := B.at_lt T.le (by rw [hJs]; exact hjl)
        rw [hS, if_neg hsz, e, lo_digits B.g s _ hsg, tr_tr, Nat.mod_eq_of_lt hjg, ← er, Nat.mul_div_cancel _ (Nat.two_pow_pos _)]
      rw [hf]
      have h1 := blk_all (fun q : Nat => bucketK M ((1 - whichM M : Nat) : Int) (q : Int)) s
      have h2 := flat_keys M (1 - whichM M) h01
      rw [small_len, e] at h2
      rw [h2] at h1
      exact h1
  refine (hsmall.append hgreat).trans ?_
  rw [← List.map_append]
  refine List.Perm.map _ ?_
  unfold tabOf whichM entries
  split
  · simp
    exact List.perm_append_comm
  · simp
end Go.Proofs.Ytgomilodeaafdaa
namespace Go.Proofs.Ytgomilodeaafdaa
theorem old_ne {M : DM} (h : Inv M) (hn : entries M ≠ []) : M.old ≠ [] := by
  intro ho
  have hy : M.young = [] := by
    by_cases hy : M.young = []
    · exact hy
    · have := h.moving hy; rw [ho] at this; simp at this
  refine hn ?_
  unfold entries
  rw [ho, hy]
  rfl

section
variable {α : Type}
theorem blk_mem (G : Nat → List α) (g a b q : Nat) (x : α) (h1 : a ≤ q) (h2 : q < b) (hx : x ∈ G (tr g q)) : x ∈ blk G g a b := by
  unfold blk
  exact List.mem_flatMap.2 ⟨q, List.mem_range'.2 ⟨q - a, by omega, by omega⟩, hx⟩
theorem TB.seg_mem (T : TB α) {i j n : Nat} (h1 : i ≤ n) (h2 : n < j) {x : α} (hx : x ∈ T.turnJ n) : x ∈ T.seg i j := by
  unfold TB.seg
  exact List.mem_flatMap.2 ⟨n, List.mem_range'.2 ⟨n - i, by omega, by omega⟩, hx⟩
/-- from any cursor: the rest of its stretch, then whole stretches -/
theorem TB.nxt_gen (T : TB α) (hr : T.r ≤ T.g) (c : Nat) (l : List α) : ∃ j', tr T.g c / 2 ^ T.r < j' ∧ j' ≤ T.J ∧ T.nxt c l = (T.cur j', l ++ T.turnK c ++ T.seg (tr T.g c / 2 ^ T.r + 1) j') := by
  obtain ⟨p, hp⟩ : ∃ p, tr T.g c = p := ⟨_, rfl⟩
  have hpl : p < 2 ^ T.g := by rw [← hp]; exact tr_lt _ _
  have hJ := T.J_mul hr
  have hn : p / 2 ^ T.r < T.J := by
    rw [Nat.div_lt_iff_lt_mul (Nat.two_pow_pos _), hJ]; exact hpl
  have hC : T.turnC c = T.cur (p / 2 ^ T.r + 1) := by
    unfold TB.turnC TB.cur
    rw [hp]
    unfold en
    by_cases h : p / 2 ^ T.r + 1 = T.J
    · rw [if_pos h, if_pos (by rw [h]; exact hJ)]
    · rw [if_neg h, if_neg]
      intro e
      rw [← hJ] at e
      exact h (Nat.eq_of_mul_eq_mul_right (Nat.two_pow_pos _) e)
  rw [T.nxt_eq hr, hC, hp]
  by_cases hc : T.cur (p / 2 ^ T.r + 1) = 0 ∨ T.cnt ≤ (l ++ T.turnK c).length
  · rw [if_pos hc]
    exact ⟨_, Nat.lt_succ_self _, hn, by rw [T.seg_nil, List.append_nil]⟩
  · rw [if_neg hc]
    obtain ⟨h1, h2⟩ := cur_pos T hr (show p / 2 ^ T.r + 1 ≤ T.J from hn) (fun e => hc (.inl e))
    rw [h2]
    obtain ⟨j', g1, g2, g3, _⟩ := T.nxt_seg hr _ _ rfl h1 (l ++ T.turnK c)
    exact ⟨j', by omega, g2, g3⟩
theorem TB.cur_lt (T : TB α) (j : Nat) : T.cur j < 2 ^ T.g := by
  unfold TB.cur
  split
  · exact Nat.two_pow_pos _
  · exact tr_lt _ _
end
/-- the digits that a table of 2^g buckets sees, read backwards -/
theorem tr_top (g h : Nat) (hg : g ≤ 64) : tr g h = tr 64 h / 2 ^ (64 - g) := by
  have h1 := lo_digits 64 g h hg
  have h2 := congrArg (tr g) h1
  rw [tr_tr, tr_mod g h g (Nat.le_refl _)] at h2
  rw [h2, Nat.mod_eq_of_lt]
  rw [Nat.div_lt_iff_lt_mul (Nat.two_pow_pos _), ← Nat.pow_add, Nat.add_sub_cancel' hg]
  exact tr_lt 64 h
theorem tr_low64 (g x : Nat) (hg : g ≤ 64) (hx : x < 2 ^ g) : tr 64 x = 2 ^ (64 - g) * tr g x := by
  have h := tr_split 64 (64 - g) x (by omega)
  rw [show 64 - (64 - g) = g by omega, Nat.mod_eq_of_lt hx, Nat.div_eq_of_lt hx, tr_zero, Nat.add_zero] at h
  exact h
def hashOf (seed : UInt64) (key : ByteArray) : UInt64 := hash seed key.data.toList
/-- where a key's hash stands, read backwards -/
def place (seed : UInt64) (key : ByteArray) : Nat := tr 64 (hashOf seed key).toNat
theorem in_table {M : DM} (h : Inv M) {e : E} (he : e ∈ entries M) : ∃ t : Nat, (t = whichM M ∨ (t = 1 - whichM M ∧ smallM M ≠ 0)) ∧ e.key ∈ bucketK M (t : Int) (((hashOf M.seed e.key).toNat % (tabOf M (t : Int)).length : Nat) : Int) := by
  have key : ∀ t : Nat, t = 0 ∨ t = 1 → Placed M.seed (tabOf M (t : Int)) → e ∈ (tabOf M (t : Int)).flatten → e.key ∈ bucketK M (t : Int) (((hashOf M.seed e.key).toNat % (tabOf M (t : Int)).length : Nat) : Int) := by
    intro t ht hp hm
    obtain ⟨c, hc, hec⟩ := List.mem_flatten.1 hm
    obtain ⟨i, hi, hic⟩ := List.getElem_of_mem hc
    have hci : (tabOf M (t : Int))[i]? = some c := by rw [List.getElem?_eq_getElem hi, hic]
    have hs := hp i c hci e hec
    unfold bucketK
    rw [if_pos ⟨by omega, by omega⟩, Int.toNat_natCast, show (hashOf M.seed e.key).toNat % (tabOf M (t : Int)).length = i from hs, hci]
    exact List.mem_map.2 ⟨e, hec, rfl⟩
  have hin : e ∈ M.old.flatten ∨ e ∈ M.young.flatten := by
    unfold entries at he
    exact List.mem_append.1 he
  rcases hin with hin | hin
  · have k := key 0 (.inl rfl) h.pold hin
    refine ⟨0, ?_, k⟩
    by_cases hw : whichM M = 0
    · exact .inl hw.symm
    · have hw1 : whichM M = 1 := by have := which_01 M; omega
      refine .inr ⟨by omega, ?_⟩
      intro hs
      have := small_len M
      rw [hw1, hs] at this
      have h0 : M.old = [] := List.length_eq_zero_iff.1 this
      rw [h0] at hin
      cases hin
  · have k := key 1 (.inr rfl) h.pyoung hin
    refine ⟨1, ?_, k⟩
    by_cases hw : whichM M = 1
    · exact .inl hw.symm
    · have hw0 : whichM M = 0 := by have := which_01 M; omega
      refine .inr ⟨by omega, ?_⟩
      intro hs
      have := small_len M
      rw [hw0, hs] at this
      have h0 : M.young = [] := List.length_eq_zero_iff.1 this
      rw [h0] at hin
      cases hin
theorem great_bound {M : DM} (ho : M.old.length ≤ 35184372088832) (hy : M.young.length ≤ 35184372088832) {g : Nat} (hg : greatM M = 2 ^ g) : g ≤ 45 := by
  refine (Nat.pow_le_pow_iff_right (by decide : 1 < 2)).1 ?_
  rw [← hg]
  unfold greatM
  split <;> omega
/-- ONE CALL: each key from the cursor's place up to the next cursor's is told -/
theorem scan_tells {M : DM} (h : Inv M) (ho : M.old.length ≤ 35184372088832) (hy : M.young.length ≤ 35184372088832) (c : Nat) (count : Int) {e : E} (he : e ∈ entries M) (h1 : tr 64 c ≤ place M.seed e.key)
    (h2 : (scanK M c count).1 = 0 ∨ place M.seed e.key < tr 64 (scanK M c count).1) : e.key ∈ (scanK M c count).2 := by
  have hne : M.old ≠ [] := old_ne h (List.ne_nil_of_mem he)
  unfold scanK at h2 ⊢
  rw [if_neg hne] at h2 ⊢
  have TT := tabs h hne (max count 1).toNat
  obtain ⟨B, hB⟩ : ∃ B, scanT M (max count 1).toNat = B := ⟨_, rfl⟩
  have hG : ∀ q : Nat, B.G q = bucketK M (whichM M : Nat) (q : Int) := fun q => by rw [← hB]; rfl
  have hS : ∀ c : Nat, B.S c = if smallM M = 0 then [] else bucketK M ((1 - whichM M : Nat) : Int) ((c % smallM M : Nat) : Int) := fun q => by rw [← hB]; rfl
  rw [hB] at TT h2 ⊢
  have hg45 := great_bound ho hy TT.great
  have hg64 : B.g ≤ 64 := by omega
  obtain ⟨j', g1, g2, g3⟩ := B.nxt_gen TT.le c []
  rw [g3] at h2 ⊢
  simp only [List.nil_append] at h2 ⊢
  obtain ⟨H, hH⟩ : ∃ H, (hashOf M.seed e.key).toNat = H := ⟨_, rfl⟩
  have hpl : place M.seed e.key = tr 64 H := by unfold place; rw [hH]
  rw [hpl] at h1 h2
  obtain ⟨q, hq⟩ : ∃ q, tr B.g H = q := ⟨_, rfl⟩
  have hq2 : q = tr 64 H / 2 ^ (64 - B.g) := by rw [← hq]; exact tr_top _ _ hg64
  have hpq : tr B.g c ≤ q := by rw [hq2, tr_top _ _ hg64]; exact Nat.div_le_div_right h1
  have hql : q < 2 ^ B.g := by rw [← hq]; exact tr_lt _ _
  have hqj : q / 2 ^ B.r < j' := by
    by_cases h0 : B.cur j' = 0
    · have := cur_zero B TT.le g2 (Nat.lt_of_le_of_lt (Nat.zero_le _) g1) h0
      rw [this, Nat.div_lt_iff_lt_mul (Nat.two_pow_pos _), B.J_mul TT.le]
      exact hql
    · obtain ⟨i1, i2⟩ := cur_pos B TT.le g2 h0
      have h3 := h2.resolve_left h0
      rw [tr_low64 B.g _ hg64 (B.cur_lt j'), i2, tr_tr, Nat.mod_eq_of_lt (B.at_lt TT.le i1)] at h3
      rw [Nat.div_lt_iff_lt_mul (Nat.two_pow_pos _), hq2, Nat.div_lt_iff_lt_mul (Nat.two_pow_pos _), Nat.mul_comm _ (2 ^ (64 - B.g))]
      exact h3
  have hpn : tr B.g c / 2 ^ B.r ≤ q / 2 ^ B.r := Nat.div_le_div_right hpq
  obtain ⟨t, ht, hk⟩ := in_table h he
  rw [hH] at hk
  rw [List.mem_append]
  rcases ht with rfl | ⟨rfl, hs⟩
  · rw [great_len, TT.great] at hk
    have hk2 : e.key ∈ B.G (tr B.g q) := by
      rw [hG, ← hq, tr_tr]; exact hk
    by_cases hcase : q / 2 ^ B.r = tr B.g c / 2 ^ B.r
    · left
      unfold TB.turnK
      refine List.mem_append_right _ (blk_mem _ _ _ _ q _ hpq ?_ hk2)
      have := en_gt B.r q
      unfold en at this ⊢
      rwa [hcase] at this
    · right
      refine B.seg_mem (n := q / 2 ^ B.r) (by omega) hqj ?_
      unfold TB.turnJ
      refine List.mem_append_right _ (blk_mem _ _ _ _ q _ (Nat.div_mul_le_self _ _) ?_ hk2)
      exact en_gt B.r q
  · rw [small_len] at hk
    rcases TT.small with ⟨e0, _⟩ | ⟨s, es, hsg, er⟩
    · exact absurd e0 hs
    · have hlow : ∀ x, tr B.g x / 2 ^ B.r = q / 2 ^ B.r → x % smallM M = H % smallM M := fun x hx => by
        rw [es, lo_digits B.g s x hsg, lo_digits B.g s H hsg, hq, ← er, hx]
      by_cases hcase : q / 2 ^ B.r = tr B.g c / 2 ^ B.r
      · left
        unfold TB.turnK
        refine List.mem_append_left _ ?_
        rw [hS, if_neg hs, hlow c hcase.symm]
        exact hk
      · right
        refine B.seg_mem (n := q / 2 ^ B.r) (by omega) hqj ?_
        unfold TB.turnJ
        refine List.mem_append_left _ ?_
        rw [hS, if_neg hs, hlow]
        · exact hk
        · have hl : q / 2 ^ B.r * 2 ^ B.r < 2 ^ B.g := Nat.lt_of_le_of_lt (Nat.div_mul_le_self _ _) hql
          rw [tr_tr, Nat.mod_eq_of_lt hl, Nat.mul_div_cancel _ (Nat.two_pow_pos _)]
/-- what does not count in a cursor -/
theorem scan_fold {M : DM} (h : Inv M) (c c' : Nat) (count : Int) (hc : c % max (max M.old.length M.young.length) 1 = c' % max (max M.old.length M.young.length) 1) : scanK M c count = scanK M c' count := by
  unfold scanK
  by_cases hne : M.old = []
  · rw [if_pos hne, if_pos hne]
  · rw [if_neg hne, if_neg hne]
    have TT := tabs h hne (max count 1).toNat
    obtain ⟨B, hB⟩ : ∃ B, scanT M (max count 1).toNat = B := ⟨_, rfl⟩
    have hS : ∀ c : Nat, B.S c = if smallM M = 0 then [] else bucketK M ((1 - whichM M : Nat) : Int) ((c % smallM M : Nat) : Int) := fun q => by rw [← hB]; rfl
    rw [hB] at TT ⊢
    have hm : max (max M.old.length M.young.length) 1 = 2 ^ B.g := by
      have h1 := TT.great
      have h2 := Nat.two_pow_pos B.g
      unfold greatM at h1
      split at h1 <;> omega
    rw [hm] at hc
    have e1 : tr B.g c = tr B.g c' := by rw [← tr_mod B.g c B.g (Nat.le_refl _), hc, tr_mod B.g c' B.g (Nat.le_refl _)]
    have e2 : B.S c = B.S c' := by
      rw [hS, hS]
      by_cases hs : smallM M = 0
      · rw [if_pos hs, if_pos hs]
      · rw [if_neg hs, if_neg hs]
        rcases TT.small with ⟨e0, _⟩ | ⟨s, es, hsg, er⟩
        · exact absurd e0 hs
        · rw [es, lo_digits B.g s c hsg, lo_digits B.g s c' hsg, e1]
    have e3 : B.turnC c = B.turnC c' := by unfold TB.turnC; rw [e1]
    have e4 : B.turnK c = B.turnK c' := by unfold TB.turnK; rw [e1, e2]
    rw [B.nxt_eq TT.le, B.nxt_eq TT.le c', e3, e4]
end Go.Proofs.Ytgomilodeaafdaa
namespace Go.Proofs.Ytgomilodeaafdaa
/-- what is told from a cursor to the end -/
structure RestOf (M : DM) (c : Nat) (l : List ByteArray) : Prop where
  told : ∀ e ∈ entries M, tr 64 c ≤ place M.seed e.key → e.key ∈ l
  all : c = 0 → l.Perm ((entries M).map E.key)
  len : l.length ≤ 3 * M.n
/-- behind i calls -/
structure RS (M : DM) (cnt : Nat) (c i c' : Nat) (L : List ByteArray) : Prop where
  told : ∀ e ∈ entries M, tr 64 c ≤ place M.seed e.key → e.key ∈ L ∨ tr 64 c' ≤ place M.seed e.key
  at_ : (i = 0 ∧ c' = c ∧ L = []) ∨ ∃ j, i ≤ j ∧ 0 < j ∧ j < (scanT M cnt).J ∧ c' = (scanT M cnt).cur j ∧ L.length ≤ 2 * M.n + ((scanT M cnt).seg 0 j).length ∧ (c = 0 → L = (scanT M cnt).seg 0 j)
theorem RS.start (M : DM) (cnt c : Nat) : RS M cnt c 0 c [] := ⟨fun _ _ h => .inr h, .inl ⟨rfl, rfl, rfl⟩⟩
theorem J_le {M : DM} (h : Inv M) (cnt : Nat) : (scanT M cnt).J ≤ max 1 (M.old.length + M.young.length) := by
  by_cases ho : M.old = []
  · have hy : M.young = [] := by
      by_cases hy : M.young = []
      · exact hy
      · have := h.moving hy; rw [ho] at this; simp at this
    have : (scanT M cnt).J = 1 := by
      unfold TB.J scanT greatM
      rw [ho, hy]
      simp
    rw [this]
    exact Nat.le_max_left _ _
  · have T := tabs h ho cnt
    have h1 : (scanT M cnt).J ≤ 2 ^ (scanT M cnt).g := Nat.pow_le_pow_right (by decide) (Nat.sub_le _ _)
    rw [← T.great] at h1
    refine Nat.le_trans h1 (Nat.le_trans ?_ (Nat.le_max_right _ _))
    unfold greatM
    split <;> omega
theorem RS.lt {M : DM} {cnt c i c' : Nat} {L : List ByteArray} (h : RS M cnt c i c' L) (hi : Inv M) : i ≤ M.old.length + M.young.length := by
  have h1 := J_le hi cnt
  rcases h.at_ with ⟨rfl, _⟩ | ⟨j, h2, h3, h4, _⟩
  · exact Nat.zero_le _
  · omega
theorem turn_len {M : DM} (h : Inv M) (ho : M.old ≠ []) (cnt c : Nat) : ((scanT M cnt).turnK c).length ≤ 2 * M.n := by
  have T := tabs h ho cnt
  obtain ⟨B, hB⟩ : ∃ B, scanT M cnt = B := ⟨_, rfl⟩
  have hG : B.G = fun q : Nat => bucketK M (whichM M : Nat) (q : Int) := by rw [← hB]; rfl
  have hS : ∀ c : Nat, B.S c = if smallM M = 0 then [] else bucketK M ((1 - whichM M : Nat) : Int) ((c % smallM M : Nat) : Int) := fun q => by rw [← hB]; rfl
  rw [hB] at T ⊢
  unfold TB.turnK
  rw [List.length_append]
  have h1 : (B.S c).length ≤ M.n := by
    rw [hS]
    split
    · simp
    · exact bucketK_len h _ _
  have hpl := tr_lt B.g c
  have h2 := blk_len B.G B.g (tr B.g c) (en B.r (tr B.g c)) (Nat.le_of_lt (en_gt _ _))
  have h3 := w_bound h T (en_le B.g B.r _ T.le hpl) (Nat.zero_le _)
  have h4 : wG M B.g (en B.r (tr B.g c)) = wt (fun i => (B.G (tr B.g i)).length) (en B.r (tr B.g c)) := by unfold wG; rw [hG]
  omega
theorem seg_len {M : DM} (h : Inv M) (ho : M.old ≠ []) (cnt j : Nat) (hj : j ≤ (scanT M cnt).J) : ((scanT M cnt).seg 0 j).length ≤ M.n := by
  have hp := (seg_all h ho cnt).length_eq
  rw [List.length_map, ← h.count] at hp
  rw [← hp, (scanT M cnt).seg_append (Nat.zero_le j) hj, List.length_append]
  omega
theorem RS.step {M : DM} {count : Int} {c i c' : Nat} {L : List ByteArray} (h : RS M (max count 1).toNat c i c' L) (hi : Inv M) (hol : M.old.length ≤ 35184372088832) (hyl : M.young.length ≤ 35184372088832) :
    (L ++ (scanK M c' count).2).length ≤ 3 * M.n ∧ ((scanK M c' count).1 = 0 → RestOf M c (L ++ (scanK M c' count).2)) ∧ ((scanK M c' count).1 ≠ 0 → RS M (max count 1).toNat c (i + 1) (scanK M c' count).1 (L ++ (scanK M c' count).2)) := by
  have htell : ∀ e ∈ entries M, tr 64 c ≤ place M.seed e.key → e.key ∈ L ++ (scanK M c' count).2 ∨ ((scanK M c' count).1 ≠ 0 ∧ tr 64 (scanK M c' count).1 ≤ place M.seed e.key) := by
    intro e he hc
    rcases h.told e he hc with h1 | h1
    · exact .inl (List.mem_append_left _ h1)
    · by_cases hz : (scanK M c' count).1 = 0
      · exact .inl (List.mem_append_right _ (scan_tells hi hol hyl c' count he h1 (.inl hz)))
      · by_cases hp : place M.seed e.key < tr 64 (scanK M c' count).1
        · exact .inl (List.mem_append_right _ (scan_tells hi hol hyl c' count he h1 (.inr hp)))
        · exact .inr ⟨hz, Nat.le_of_not_lt hp⟩
  by_cases ho : M.old = []
  · have hk : scanK M c' count = (0, []) := by unfold scanK; rw [if_pos ho]
    have hJ := J_le hi (max count 1).toNat
    have hy : M.young = [] := by
      by_cases hy : M.young = []
      · exact hy
      · have := hi.moving hy; rw [ho] at this; simp at this
    have hE : entries M = [] := by unfold entries; rw [ho, hy]; rfl
    rw [ho, hy] at hJ
    have hL : L = [] := by
      rcases h.at_ with ⟨_, _, h1⟩ | ⟨j, h2, h3, h4, _⟩
      · exact h1
      · simp at hJ; omega
    rw [hk, hL]
    refine ⟨by simp, fun _ => ⟨fun e he => (by rw [hE] at he; cases he), (fun _ => by rw [hE]; exact List.Perm.refl _), by simp⟩, fun h => absurd rfl h⟩
  · have T := tabs hi ho (max count 1).toNat
    have hsa := seg_all hi ho (max count 1).toNat
    have hsl := seg_len hi ho (max count 1).toNat
    have htl := turn_len hi ho (max count 1).toNat c'
    have hk : scanK M c' count = (scanT M (max count 1).toNat).nxt c' [] := by unfold scanK; rw [if_neg ho]
    obtain ⟨B, hB⟩ : ∃ B, scanT M (max count 1).toNat = B := ⟨_, rfl⟩
    have hat := h.at_
    rw [hB] at T hsa hsl htl hk hat
    have hJ0 : 0 < B.J := Nat.two_pow_pos _
    -- where the call ends
    have key : ∃ j', i < j' ∧ 0 < j' ∧ j' ≤ B.J ∧ (scanK M c' count).1 = B.cur j' ∧ (L ++ (scanK M c' count).2).length ≤ 2 * M.n + (B.seg 0 j').length ∧ (c = 0 → L ++ (scanK M c' count).2 = B.seg 0 j') := by
      rcases hat with ⟨rfl, rfl, rfl⟩ | ⟨j, h2, h3, h4, rfl, h6, h7⟩
      · obtain ⟨j', g1, g2, g3⟩ := B.nxt_gen T.le c' []
        rw [hk, g3]
        have hj0 : 0 < j' := Nat.lt_of_le_of_lt (Nat.zero_le _) g1
        refine ⟨j', hj0, hj0, g2, rfl, ?_, ?_⟩
        · have h8 : (B.seg (tr B.g c' / 2 ^ B.r + 1) j').length ≤ (B.seg 0 j').length := by
            rw [B.seg_append (Nat.zero_le (tr B.g c' / 2 ^ B.r + 1)) g1, List.length_append]; exact Nat.le_add_left _ _
          simp only [List.nil_append, List.length_append]
          omega
        · intro hc
          subst hc
          have h0 : tr B.g 0 = tr B.g (0 * 2 ^ B.r) := by rw [Nat.zero_mul]
          have h9 := (B.turn_at T.le hJ0).1
          rw [Nat.zero_mul, tr_zero] at h9
          rw [tr_zero, Nat.zero_div, List.nil_append, List.nil_append, h9, ← B.seg_succ hj0]
      · obtain ⟨hj1, hj2⟩ : j < B.J ∧ B.cur j = tr B.g (j * 2 ^ B.r) := ⟨h4, by unfold TB.cur; rw [if_neg (by omega)]⟩
        obtain ⟨j', g1, g2, g3, _⟩ := B.nxt_seg T.le _ j rfl hj1 []
        rw [hk, hj2, g3]
        have h8 : B.seg 0 j' = B.seg 0 j ++ B.seg j j' := B.seg_append (Nat.zero_le _) (by omega)
        refine ⟨j', by omega, by omega, g2, rfl, ?_, ?_⟩
        · rw [h8]
          simp only [List.nil_append, List.length_append]
          omega
        · intro hc
          rw [h8, h7 hc]
          rfl
    obtain ⟨j', k1, k2, k3, k4, k5, k6⟩ := key
    refine ⟨by have := hsl j' k3; omega, fun hz => ?_, fun hz => ?_⟩
    · refine ⟨fun e he hc => (htell e he hc).resolve_right (fun hh => hh.1 hz), fun hc => ?_, by have := hsl j' k3; omega⟩
      rw [k4] at hz
      have := cur_zero B T.le k3 k2 hz
      rw [k6 hc, this]
      exact hsa
    · refine ⟨fun e he hc => (htell e he hc).imp id (fun hh => hh.2), .inr ⟨j', ?_⟩⟩
      rw [hB]
      have hlt : j' < B.J := by
        rw [k4] at hz
        exact (cur_pos B T.le k3 hz).1
      exact ⟨by omega, k2, hlt, k4, k5, k6⟩
end Go.Proofs.Ytgomilodeaafdaa
namespace Go.Proofs.Ytgomilodeaafdaa
open Go.RowKit
section
variable {P : Program} {w : World}
/-- what append hands back lies where the slice lay, or in a new block -/
theorem append_apart (base : Nat) (t ty e : TypeId) (i : TypeInfo) (z : Value) (size bytes : Nat) (ht : P.underlying t = some (.slice e)) (hi : P.info? e = some i) (hz : i.zero = some z)
    (hsize : i.size = size) (hby : i.bytes = bytes) (hzs : z.cells.size = size) (hsz : 0 < size)
    (v : Value) (n : Nat) (xs : List Value) (hown : w.ownsRow base e size v n xs)
    (a : Addr) (m c : Nat) (news : List Value) (hl : news.length = m * size) (hnews : ∀ j u, news[j]? = some u → w.cell? (a.add j) = some u) (h1 : ∀ u ∈ news, u.oneCell' = true)
    (h63 : n + m ≤ maxLen) (hbytes : (n + m) * bytes ≤ 140737488355328) (hbase : base ≤ w.heap.size) :
    ∃ v' w', (Builtin.append_ #[t, t] ty #[v, .slice (some a) m c]).run P w = .ok v' w' ∧ w'.ownsRow base e size v' (n + m) (xs ++ news) ∧ w.grownBy w' v.ownBlock ∧
      ∀ g, v'.ownBlock = some g → v.ownBlock = some g ∨ w.heap.size ≤ g := by
  obtain ⟨v', w', hr, h2, h3, h4⟩ := run_append_own (P := P) w base t ty e i z size bytes ht hi hz hsize hby hzs hsz v n xs hown a m c news hl hnews h1 h63 hbytes hbase
  refine ⟨v', w', hr, h2, h3, fun g hg => ?_⟩
  have h63' : n + m ≤ 9223372036854775807 := by unfold maxLen at h63; omega
  subst hsize
  subst hby
  rcases hown.2 with ⟨rfl, rfl⟩ | ⟨g0, cap, cur, rfl, hbg, hgg, hnc, hcm, hcs, htake⟩
  · by_cases hm : m = 0
    · rw [h4.2 ⟨rfl, hm⟩] at hg; cases hg
    · have hr2 := run_append_nil (P := P) w t ty e i z ht hi hz a m c news hl hnews (by omega) (by omega) (by have hb := hbytes; simp only [Nat.zero_add] at hb; omega)
      rw [hr] at hr2
      simp only [Result.ok.injEq] at hr2
      rw [hr2.1] at hg
      cases hg
      exact .inr (Nat.le_refl _)
  · by_cases hroom : n + m ≤ cap
    · have hr2 := run_append_room (P := P) w t ty e i ht hi g0 n cap cur hgg a m c news hl hnews h1 hroom (by rw [hl, hcs, ← Nat.add_mul]; exact Nat.mul_le_mul_right _ hroom)
      rw [hr] at hr2
      simp only [Result.ok.injEq] at hr2
      rw [hr2.1] at hg
      cases hg
      exact .inl rfl
    · have hr2 := run_append_grow (P := P) w t ty e i z ht hi hz ⟨g0, 0, none⟩ n cap xs hown.1 (hown.cells (g := g0) rfl) a m c news hl hnews (by omega) (by omega) (growslice_fits (by omega) hbytes)
      rw [hr] at hr2
      simp only [Result.ok.injEq] at hr2
      rw [hr2.1] at hg
      cases hg
      exact .inr (Nat.le_refl _)
variable {ops : Array Oper} {rest : List Oper} {o : Oper} {a : Act} {Q : Exit → Act → World → Prop}
theorem wpl_append2 (hgd : o.guard = none) (s x : Operand) (t : TypeId) (ho : o.op = .call { callee := .builtin .append, args := #[s, x], argTypes := #[t, t] })
    (base : Nat) (e : TypeId) (i : TypeInfo) (z : Value) (size bytes : Nat) (ht : P.underlying t = some (.slice e)) (hi : P.info? e = some i) (hz : i.zero = some z)
    (hsize : i.size = size) (hby : i.bytes = bytes) (hzs : z.cells.size = size) (hsz : 0 < size)
    (v : Value) (n : Nat) (xs : List Value) (hs : a.eval s = v) (hown : w.ownsRow base e size v n xs)
    (xv : Value) (m : Nat) (news : List Value) (hx : a.eval x = xv) (hrd : RdC w size xv m news) (h1 : ∀ u ∈ news, u.oneCell' = true)
    (h63 : n + m ≤ maxLen) (hbytes : (n + m) * bytes ≤ 140737488355328) (hbase : base ≤ w.heap.size)
    (h : ∀ v' w', w'.ownsRow base e size v' (n + m) (xs ++ news) → w.grownBy w' v.ownBlock → (∀ g, v'.ownBlock = some g → v.ownBlock = some g ∨ w.heap.size ≤ g) → wpList P ops Q rest (a.put o.dst v') w') : wpList P ops Q (o :: rest) a w := by
  obtain ⟨hl, ad, cap, hxv, hmc, hcm, hnil, hcells⟩ := hrd
  cases ad with
  | some ad =>
    refine wpList_plain hgd fun K hK => ?_
    obtain ⟨v', w', hr, h2, h3, h4⟩ := append_apart (P := P) (w := w) base t o.type e i z size bytes ht hi hz hsize hby hzs hsz v n xs hown ad m cap news hl (hcells ad rfl) h1 h63 hbytes hbase
    have hg := h v' w' h2 h3 h4
    have he : a.eval x = .slice (some ad) m cap := hx.trans hxv
    unfold Oper.wp
    simp [execOp, ho, resolve, invoke, builtin, hs, he, hr, Result.andThen]
    exact hK _ _ hg
  | none =>
    obtain ⟨rfl, rfl⟩ := hnil rfl
    have hn0 : news = [] := by simpa using hl
    subst hn0
    refine wpList_plain hgd fun K hK => ?_
    have hrun := run_append_owned_none (P := P) (w := w) (base := base) t o.type e i size ht hi v n xs hown
    have hg := h v w (by simpa using hown) ⟨rfl, rfl, rfl, Nat.le_refl _, fun _ _ _ => rfl⟩ (fun g hg => .inl hg)
    have he : a.eval x = .slice none 0 0 := hx.trans hxv
    unfold Oper.wp
    simp [execOp, ho, resolve, invoke, builtin, hs, he, hrun, Result.andThen]
    exact hK _ _ hg
end
def InI (x : Int) : Prop := -9223372036854775808 ≤ x ∧ x ≤ 9223372036854775807
theorem three_of {α : Type} {l : List α} (h : l.length = 3) : ∃ a b c, l = [a, b, c] := by
  match l, h with
  | [a, b, c], _ => exact ⟨a, b, c, rfl⟩
section
variable {α : Type} {L : List (ByteArray × α)}
theorem setG_keys {key x : ByteArray} (v : α) (h : x ∈ L.map (·.1)) : x ∈ (setG L key v).map (·.1) := by
  unfold setG
  cases ha : fdG key L with
  | none => rw [List.map_append]; exact List.mem_append_left _ h
  | some i =>
    obtain ⟨y, hy⟩ := fdG_some ha
    have h1 := (permG_erase L i _ hy).map (·.1)
    have h2 := (permG_set L i (key, v) (fdG_lt ha)).map (·.1)
    have h3 := h1.mem_iff.1 h
    exact h2.mem_iff.2 h3
theorem delG_keys {key x : ByteArray} (hne : x ≠ key) (h : x ∈ L.map (·.1)) : x ∈ (delG L key).map (·.1) := by
  unfold delG
  cases ha : fdG key L with
  | none => exact h
  | some i =>
    obtain ⟨y, hy⟩ := fdG_some ha
    have h1 := (permG_erase L i _ hy).map (·.1)
    have h3 := h1.mem_iff.1 h
    rw [List.map_cons, List.mem_cons] at h3
    exact h3.resolve_left hne
end
/-- what has been told by now: each key that stays and lies ahead of the cursor's place -/
def Tld (seed : UInt64) (c : Nat) (told all : List ByteArray) : Prop := ∀ x ∈ all, (c = 0 ∨ place seed x < tr 64 c) → x ∈ told
theorem Tld.next {M : DM} {α : Type} {f : α → List Value} {L : List (ByteArray × α)} (hl : LikeG f M L) (ho : M.old.length ≤ 35184372088832) (hy : M.young.length ≤ 35184372088832) {c : Nat} {told all : List ByteArray} (hc : c ≠ 0) (h : Tld M.seed c told all) (hs : ∀ x ∈ all, x ∈ L.map (·.1)) (count : Int) :
    Tld M.seed (scanK M c count).1 (told ++ (scanK M c count).2) all := by
  intro x hx hp
  by_cases hlt : place M.seed x < tr 64 c
  · exact List.mem_append_left _ (h x hx (.inr hlt))
  · obtain ⟨e, he, hek⟩ := List.mem_map.1 (hl.keys.mem_iff.2 (hs x hx))
    rw [← hek] at hp hlt ⊢
    exact List.mem_append_right _ (scan_tells hl.inv ho hy c count he (Nat.le_of_not_lt hlt) hp)
theorem Tld.first {M : DM} {α : Type} {f : α → List Value} {L : List (ByteArray × α)} (hl : LikeG f M L) (ho : M.old.length ≤ 35184372088832) (hy : M.young.length ≤ 35184372088832) {all : List ByteArray} (hs : ∀ x ∈ all, x ∈ L.map (·.1)) (count : Int) :
    Tld M.seed (scanK M 0 count).1 (scanK M 0 count).2 all := by
  intro x hx hp
  obtain ⟨e, he, hek⟩ := List.mem_map.1 (hl.keys.mem_iff.2 (hs x hx))
  rw [← hek] at hp ⊢
  exact scan_tells hl.inv ho hy 0 count he (by rw [tr_zero]; exact Nat.zero_le _) hp
theorem Tld.stay {seed : UInt64} {c : Nat} {told all all' : List ByteArray} (h : Tld seed c told all) (hs : ∀ x ∈ all', x ∈ all) : Tld seed c told all' := fun x hx hp => h x (hs x hx) hp
theorem Tld.rest {M : DM} {α : Type} {f : α → List Value} {L : List (ByteArray × α)} (hl : LikeG f M L) {c : Nat} {told all l : List ByteArray} (h : Tld M.seed c told all) (hs : ∀ x ∈ all, x ∈ L.map (·.1)) (hr : RestOf M c l) : ∀ x ∈ all, x ∈ told ++ l := by
  intro x hx
  by_cases hlt : place M.seed x < tr 64 c
  · exact List.mem_append_left _ (h x hx (.inr hlt))
  · obtain ⟨e, he, hek⟩ := List.mem_map.1 (hl.keys.mem_iff.2 (hs x hx))
    rw [← hek] at hlt ⊢
    exact List.mem_append_right _ (hr.told e he (Nat.le_of_not_lt hlt))
theorem scanK_len {M : DM} (h : Inv M) (ho : M.old.length ≤ 35184372088832) (hy : M.young.length ≤ 35184372088832) (c : Nat) (count : Int) : (scanK M c count).2.length ≤ 3 * M.n := by
  have h1 := ((RS.start M (max count 1).toNat c).step h ho hy (count := count)).1
  rwa [List.nil_append] at h1
end Go.Proofs.Ytgomilodeaafdaa

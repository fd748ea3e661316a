/- What growing, adding, unlinking and clearing make of a dict in memory; the buckets' keys; what Sample draws. No condition; no program. -/
import Derived.Test.YtkecipdonamjaaaDictG
namespace Go.Proofs.Ytkecipdonamjaaa
open Go.RowKit

section
variable {ET PT DT : TypeId} {w : World} {d : Nat} {M : DM}
theorem rowO_new (n : Nat) : rowO PT (List.replicate n []) = .cells (List.replicate n (.pointer none)).toArray PT (0, 0) := by
  simp [rowO, hp, hpT]
theorem chainsO_new (n : Nat) : chainsO ET (List.replicate n []) = [] := by
  unfold chainsO
  rw [List.flatMap_eq_nil_iff]
  intro c hc
  rw [(List.mem_replicate.1 hc).2]; rfl
theorem tabO_new (t n : Nat) (hn : 0 < n) : tabO ET PT t (List.replicate n []) = [(t, .cells (List.replicate n (.pointer none)).toArray PT (0, 0))] := by
  rw [tabO_of (replicate_ne hn), rowO_new, chainsO_new]
theorem tv_new (t n : Nat) (hn : 0 < n) : tv t (List.replicate n []) = .slice (some ⟨t, 0, none⟩) n n := by
  rw [tv_of (replicate_ne hn), List.length_replicate]
theorem alloc_at (w : World) (o : Obj) : (w.alloc o).heap[w.heap.size]? = some o := by
  unfold World.alloc
  exact Array.getElem?_push_size
/-- a first table is laid -/
theorem grow_old {n : Nat} {o : Obj} (h : Rep w (dictO ET PT DT d M)) (nd : Nd (dictO ET PT DT d M)) (ho : M.old = []) (hn : 0 < n) (ho' : o = .cells (List.replicate n (.pointer none)).toArray PT (0, 0)) :
    Rep ((w.alloc o).setCell ⟨d, 1, none⟩ (.slice (some ⟨w.heap.size, 0, none⟩) n n)) (dictO ET PT DT d { M with old := List.replicate n [], told := w.heap.size }) ∧
      Nd (dictO ET PT DT d { M with old := List.replicate n [], told := w.heap.size }) := by
  subst ho'
  have e1 : dictO ET PT DT d M = (d, fieldsO DT M) :: tabO ET PT M.tyoung M.young := by unfold dictO; rw [ho, tabO_nil]; rfl
  have e2 : dictO ET PT DT d { M with old := List.replicate n [], told := w.heap.size } = (d, fieldsO DT { M with old := List.replicate n [], told := w.heap.size }) :: ((w.heap.size, .cells (List.replicate n (.pointer none)).toArray PT (0, 0)) :: tabO ET PT M.tyoung M.young) := by
    unfold dictO; simp only; rw [tabO_new _ _ hn]; rfl
  rw [e1] at h nd
  rw [e2]
  obtain ⟨n1, n2⟩ := Nd.cons_iff.1 nd
  have hd : d < w.heap.size := h.lt (Bs.cons_iff.2 (.inl rfl))
  have hnb : ¬ Bs (tabO ET PT M.tyoung M.young) w.heap.size := fun hb => Nat.lt_irrefl _ (h.lt (Bs.cons_iff.2 (.inr hb)))
  have h1 := Rep.cons (alloc_at w (.cells (List.replicate n (.pointer none)).toArray PT (0, 0))) (h.alloc (.cells (List.replicate n (.pointer none)).toArray PT (0, 0)))
  have h2 := h1.perm (List.Perm.swap _ _ _)
  have hnn : ¬ Bs ((w.heap.size, Obj.cells (List.replicate n (.pointer none)).toArray PT (0, 0)) :: tabO ET PT M.tyoung M.young) d := by
    rw [Bs.cons_iff]; exact fun e => e.elim (fun e => by omega) n1
  have h3 := Rep.setHead (cs := #[.int .u64 (wd M.seed), tv M.told M.old, tv M.tyoung M.young, .int .i64 M.at_, .int .i64 M.n]) h2 1 (.slice (some ⟨w.heap.size, 0, none⟩) n n) hnn
  refine ⟨Rep.cons ?_ h3.tail, Nd.cons_iff.2 ⟨hnn, Nd.cons_iff.2 ⟨hnb, n2⟩⟩⟩
  rw [h3.head]
  unfold fieldsO
  simp only
  rw [tv_new _ _ hn]
  rfl
/-- a second table is laid -/
theorem grow_young {n : Nat} {o : Obj} (h : Rep w (dictO ET PT DT d M)) (nd : Nd (dictO ET PT DT d M)) (ho : M.young = []) (hn : 0 < n) (ho' : o = .cells (List.replicate n (.pointer none)).toArray PT (0, 0)) :
    Rep ((w.alloc o).setCell ⟨d, 2, none⟩ (.slice (some ⟨w.heap.size, 0, none⟩) n n)) (dictO ET PT DT d { M with young := List.replicate n [], tyoung := w.heap.size }) ∧
      Nd (dictO ET PT DT d { M with young := List.replicate n [], tyoung := w.heap.size }) := by
  subst ho'
  have e1 : dictO ET PT DT d M = (d, fieldsO DT M) :: tabO ET PT M.told M.old := by unfold dictO; rw [ho, tabO_nil, List.append_nil]
  have e2 : (dictO ET PT DT d { M with young := List.replicate n [], tyoung := w.heap.size }).Perm ((d, fieldsO DT { M with young := List.replicate n [], tyoung := w.heap.size }) :: ((w.heap.size, .cells (List.replicate n (.pointer none)).toArray PT (0, 0)) :: tabO ET PT M.told M.old)) := by
    unfold dictO; simp only; rw [tabO_new _ _ hn]; exact List.Perm.cons _ List.perm_append_comm
  rw [e1] at h nd
  obtain ⟨n1, n2⟩ := Nd.cons_iff.1 nd
  have hd : d < w.heap.size := h.lt (Bs.cons_iff.2 (.inl rfl))
  have hnb : ¬ Bs (tabO ET PT M.told M.old) w.heap.size := fun hb => Nat.lt_irrefl _ (h.lt (Bs.cons_iff.2 (.inr hb)))
  have h1 := Rep.cons (alloc_at w (.cells (List.replicate n (.pointer none)).toArray PT (0, 0))) (h.alloc (.cells (List.replicate n (.pointer none)).toArray PT (0, 0)))
  have h2 := h1.perm (List.Perm.swap _ _ _)
  have hnn : ¬ Bs ((w.heap.size, Obj.cells (List.replicate n (.pointer none)).toArray PT (0, 0)) :: tabO ET PT M.told M.old) d := by
    rw [Bs.cons_iff]; exact fun e => e.elim (fun e => by omega) n1
  have h3 := Rep.setHead (cs := #[.int .u64 (wd M.seed), tv M.told M.old, tv M.tyoung M.young, .int .i64 M.at_, .int .i64 M.n]) h2 2 (.slice (some ⟨w.heap.size, 0, none⟩) n n) hnn
  refine ⟨Rep.perm (Rep.cons ?_ h3.tail) e2.symm, Nd.perm (Nd.cons_iff.2 ⟨hnn, Nd.cons_iff.2 ⟨hnb, n2⟩⟩) e2.symm⟩
  rw [h3.head]
  unfold fieldsO
  simp only
  rw [tv_new _ _ hn]
  rfl
theorem addM_old (M : DM) (e : E) (h : M.young = []) : addM M e = { M with old := hangM M.seed M.old e, n := M.n + 1 } := by unfold addM; rw [if_pos h]
theorem addM_young (M : DM) (e : E) (h : M.young ≠ []) : addM M e = { M with young := hangM M.seed M.young e, n := M.n + 1 } := by unfold addM; rw [if_neg h]
theorem fields_of (M N : DM) (h1 : N.seed = M.seed) (h2 : N.told = M.told) (h3 : N.old.length = M.old.length) (h4 : N.tyoung = M.tyoung) (h5 : N.young.length = M.young.length) (h6 : N.at_ = M.at_) (h7 : N.n = M.n) :
    fieldsO DT N = fieldsO DT M := by
  unfold fieldsO
  rw [h1, h2, h4, h6, h7, tv_len M.told N.old M.old h3, tv_len M.tyoung N.young M.young h5]
/-- an entry is hung into the old table -/
theorem hang_old {e : E} {c : List E} {nx : Value} (h : Rep w ((e.b, entryObj ET e nx) :: dictO ET PT DT d M)) (nd : Nd ((e.b, entryObj ET e nx) :: dictO ET PT DT d M)) (hne : M.old ≠ [])
    (hc : M.old[slotOf M.seed M.old.length e.key]? = some c) :
    Rep ((w.setCell ⟨e.b, 1 + e.val.length, none⟩ (hp c)).setCell ⟨M.told, slotOf M.seed M.old.length e.key, none⟩ (.pointer (some ⟨e.b, 0, none⟩))) (dictO ET PT DT d { M with old := hangM M.seed M.old e }) ∧
      Nd (dictO ET PT DT d { M with old := hangM M.seed M.old e }) ∧ ∀ k, Bs (dictO ET PT DT d { M with old := hangM M.seed M.old e }) k ↔ Bs ((e.b, entryObj ET e nx) :: dictO ET PT DT d M) k := by
  have hl := hangM_length M.seed M.old e
  have hne2 : hangM M.seed M.old e ≠ [] := len_ne hl.symm hne
  have hf : fieldsO DT { M with old := hangM M.seed M.old e } = fieldsO DT M := fields_of M _ rfl rfl hl rfl rfl rfl rfl
  have hm := hangM_eq M.seed M.old e c hc
  have p1 : ((e.b, entryObj ET e nx) :: dictO ET PT DT d M).Perm (((d, fieldsO DT M) :: tabO ET PT M.tyoung M.young) ++ ((e.b, entryObj ET e nx) :: (M.told, rowO PT M.old) :: chainsO ET M.old)) := by
    unfold dictO
    rw [tabO_of hne]
    refine List.Perm.trans (List.Perm.cons _ (List.Perm.cons _ List.perm_append_comm)) ?_
    rw [← List.cons_append]
    exact List.perm_middle.symm
  have p2 : (dictO ET PT DT d { M with old := hangM M.seed M.old e }).Perm (((d, fieldsO DT M) :: tabO ET PT M.tyoung M.young) ++ ((M.told, rowO PT (hangM M.seed M.old e)) :: chainsO ET (hangM M.seed M.old e))) := by
    unfold dictO
    rw [hf]
    simp only
    rw [tabO_of hne2]
    exact List.Perm.cons _ List.perm_append_comm
  obtain ⟨r1, r2, r3⟩ := hang_rep (h.perm p1) (nd.perm p1) hc
  rw [← hm] at r1 r2 r3
  exact ⟨r1.perm p2.symm, r2.perm p2.symm, fun k => by rw [Bs.perm p2, Bs.perm p1]; exact r3 k⟩
/-- an entry is hung into the young table -/
theorem hang_young {e : E} {c : List E} {nx : Value} (h : Rep w ((e.b, entryObj ET e nx) :: dictO ET PT DT d M)) (nd : Nd ((e.b, entryObj ET e nx) :: dictO ET PT DT d M)) (hne : M.young ≠ [])
    (hc : M.young[slotOf M.seed M.young.length e.key]? = some c) :
    Rep ((w.setCell ⟨e.b, 1 + e.val.length, none⟩ (hp c)).setCell ⟨M.tyoung, slotOf M.seed M.young.length e.key, none⟩ (.pointer (some ⟨e.b, 0, none⟩))) (dictO ET PT DT d { M with young := hangM M.seed M.young e }) ∧
      Nd (dictO ET PT DT d { M with young := hangM M.seed M.young e }) ∧ ∀ k, Bs (dictO ET PT DT d { M with young := hangM M.seed M.young e }) k ↔ Bs ((e.b, entryObj ET e nx) :: dictO ET PT DT d M) k := by
  have hl := hangM_length M.seed M.young e
  have hne2 : hangM M.seed M.young e ≠ [] := len_ne hl.symm hne
  have hf : fieldsO DT { M with young := hangM M.seed M.young e } = fieldsO DT M := fields_of M _ rfl rfl rfl rfl hl rfl rfl
  have hm := hangM_eq M.seed M.young e c hc
  have p1 : ((e.b, entryObj ET e nx) :: dictO ET PT DT d M).Perm (((d, fieldsO DT M) :: tabO ET PT M.told M.old) ++ ((e.b, entryObj ET e nx) :: (M.tyoung, rowO PT M.young) :: chainsO ET M.young)) := by
    unfold dictO
    rw [tabO_of hne, ← List.cons_append]
    exact List.perm_middle.symm
  have e2 : dictO ET PT DT d { M with young := hangM M.seed M.young e } = ((d, fieldsO DT M) :: tabO ET PT M.told M.old) ++ ((M.tyoung, rowO PT (hangM M.seed M.young e)) :: chainsO ET (hangM M.seed M.young e)) := by
    unfold dictO
    rw [hf]
    simp only
    rw [tabO_of hne2]
    rfl
  obtain ⟨r1, r2, r3⟩ := hang_rep (h.perm p1) (nd.perm p1) hc
  rw [← hm] at r1 r2 r3
  rw [e2]
  exact ⟨r1, r2, fun k => by rw [Bs.perm p1]; exact r3 k⟩
/-- an entry is unlinked from the old table -/
theorem drop_old {i : Nat} {pre post : List E} {e : E} (h : Rep w (dictO ET PT DT d M)) (nd : Nd (dictO ET PT DT d M)) (hc : M.old[i]? = some (pre ++ e :: post)) :
    Rep (w.setCell (linkAt M.told i pre) (hp post)) (dictO ET PT DT d { M with old := delT M.old i pre post }) ∧ Nd (dictO ET PT DT d { M with old := delT M.old i pre post }) ∧
      (∀ k, Bs (dictO ET PT DT d { M with old := delT M.old i pre post }) k → Bs (dictO ET PT DT d M) k) ∧ Bs (dictO ET PT DT d M) (linkAt M.told i pre).block := by
  have hne : M.old ≠ [] := by intro h0; rw [h0] at hc; simp at hc
  have hl : (delT M.old i pre post).length = M.old.length := by simp [delT]
  have hne2 : delT M.old i pre post ≠ [] := len_ne hl.symm hne
  have hf : fieldsO DT { M with old := delT M.old i pre post } = fieldsO DT M := fields_of M _ rfl rfl hl rfl rfl rfl rfl
  have p1 : (dictO ET PT DT d M).Perm (((d, fieldsO DT M) :: tabO ET PT M.tyoung M.young) ++ ((M.told, rowO PT M.old) :: chainsO ET M.old)) := by
    unfold dictO
    rw [tabO_of hne]
    exact List.Perm.cons _ List.perm_append_comm
  have p2 : (dictO ET PT DT d { M with old := delT M.old i pre post }).Perm (((d, fieldsO DT M) :: tabO ET PT M.tyoung M.young) ++ ((M.told, rowO PT (delT M.old i pre post)) :: chainsO ET (delT M.old i pre post))) := by
    unfold dictO
    rw [hf]
    simp only
    rw [tabO_of hne2]
    exact List.Perm.cons _ List.perm_append_comm
  obtain ⟨r1, r2, r3, r4⟩ := tab_del (h.perm p1) (nd.perm p1) hc
  exact ⟨r1.perm p2.symm, r2.perm p2.symm, fun k hk => by rw [Bs.perm p1]; exact r3 k ((Bs.perm p2).1 hk), (Bs.perm p1).2 r4⟩
/-- an entry is unlinked from the young table -/
theorem drop_young {i : Nat} {pre post : List E} {e : E} (h : Rep w (dictO ET PT DT d M)) (nd : Nd (dictO ET PT DT d M)) (hc : M.young[i]? = some (pre ++ e :: post)) :
    Rep (w.setCell (linkAt M.tyoung i pre) (hp post)) (dictO ET PT DT d { M with young := delT M.young i pre post }) ∧ Nd (dictO ET PT DT d { M with young := delT M.young i pre post }) ∧
      (∀ k, Bs (dictO ET PT DT d { M with young := delT M.young i pre post }) k → Bs (dictO ET PT DT d M) k) ∧ Bs (dictO ET PT DT d M) (linkAt M.tyoung i pre).block := by
  have hne : M.young ≠ [] := by intro h0; rw [h0] at hc; simp at hc
  have hl : (delT M.young i pre post).length = M.young.length := by simp [delT]
  have hne2 : delT M.young i pre post ≠ [] := len_ne hl.symm hne
  have hf : fieldsO DT { M with young := delT M.young i pre post } = fieldsO DT M := fields_of M _ rfl rfl rfl rfl hl rfl rfl
  have e1 : dictO ET PT DT d M = ((d, fieldsO DT M) :: tabO ET PT M.told M.old) ++ ((M.tyoung, rowO PT M.young) :: chainsO ET M.young) := by
    unfold dictO; rw [tabO_of hne]; rfl
  have e2 : dictO ET PT DT d { M with young := delT M.young i pre post } = ((d, fieldsO DT M) :: tabO ET PT M.told M.old) ++ ((M.tyoung, rowO PT (delT M.young i pre post)) :: chainsO ET (delT M.young i pre post)) := by
    unfold dictO
    rw [hf]
    simp only
    rw [tabO_of hne2]; rfl
  rw [e1] at h nd ⊢
  rw [e2]
  exact tab_del h nd hc
end
end Go.Proofs.Ytkecipdonamjaaa

/- The walks of package dict's Len, Sizes, Get at int. -/
import Derived.Test.YtkecipdonamjaaaDiW3
import Derived.Test.YtkecipdonamjaaaDictG
namespace Go.Proofs.Ytkecipdonamjaaa.Di
open Go.RowKit

theorem dat_nil {w : World} {d : Nat} {M : DM} (h : DAt w d M) : M.old.length ≤ 35184372088832 ∧ M.young.length ≤ 35184372088832 := ⟨h.lold, h.lyoung⟩
theorem pow_lt60 {k n : Nat} (h : n = 2 ^ k) (hn : n ≤ 35184372088832) : k < 60 := by
  refine Nat.lt_of_not_le (fun hge => ?_)
  have := Nat.pow_le_pow_right (show 0 < 2 by decide) hge
  omega
theorem tab_old {w : World} {d : Nat} {M : DM} (h : DAt w d M) : TabN w M.told M.old := by
  intro hne
  obtain ⟨hr, hc⟩ := dict_row_old h.rep hne
  obtain ⟨k, _, hk⟩ := h.inv.sold hne
  exact ⟨⟨hr, hc, fun c hcc e he => (h.sz e (List.mem_append.2 (.inl (List.mem_flatten.2 ⟨c, hcc, he⟩)))).1⟩, k, pow_lt60 hk h.lold, hk⟩
theorem tab_young {w : World} {d : Nat} {M : DM} (h : DAt w d M) : TabN w M.tyoung M.young := by
  intro hne
  obtain ⟨hr, hc⟩ := dict_row_young h.rep hne
  obtain ⟨k, _, hk⟩ := h.inv.syoung hne
  exact ⟨⟨hr, hc, fun c hcc e he => (h.sz e (List.mem_append.2 (.inr (List.mem_flatten.2 ⟨c, hcc, he⟩)))).1⟩, k, pow_lt60 hk h.lyoung, hk⟩
theorem step_any (w : World) (d : Nat) (M : DM) (h : DAt w d M) :
    Calls Try.prog 63 #[.pointer (some ⟨d, 0, none⟩)] w fun x w' => x = .returned (.tuple #[]) ∧ DAt w' d (stepM M) ∧ Fr (Bs (dictL d M)) w w' := by
  by_cases hy : M.young = []
  · refine (step_still w d M h hy).mono fun e w' ⟨h1, h2⟩ => ⟨h1, ?_, ?_⟩
    · rw [stepM_still M hy, ← h2]; exact h
    · rw [← h2]; exact Fr.refl _ _
  · exact step_moving w d M h hy

/-- where find says that a key's entry hangs -/
def findA (M : DM) (key : ByteArray) : Option Addr := match locT M.seed M.old key with
  | some x => some (linkA M.told x.1 x.2.1)
  | none => (locT M.seed M.young key).map fun x => linkA M.tyoung x.1 x.2.1
theorem find_any (w : World) (d : Nat) (M : DM) (key : ByteArray) (hs : key.size ≤ maxLen) (h : DAt w d M) :
    Calls Try.prog 64 #[.pointer (some ⟨d, 0, none⟩), .string key] w fun x w' => x = .returned (.pointer (findA M key)) ∧ w = w' := by
  unfold findA
  cases h1 : locT M.seed M.old key with
  | some x =>
    obtain ⟨i, pre, e, post⟩ := x
    obtain ⟨g1, g2, g3, g4⟩ := locT_some h1
    exact find_old w d M key hs h.rep.head (tab_old h) i pre e post ⟨g1, g2, g3, g4⟩
  | none =>
    cases h2 : locT M.seed M.young key with
    | some x =>
      obtain ⟨i, pre, e, post⟩ := x
      obtain ⟨g1, g2, g3, g4⟩ := locT_some h2
      exact find_young w d M key hs h.rep.head (tab_old h) (tab_young h) (locT_none h1) i pre e post ⟨g1, g2, g3, g4⟩
    | none => exact find_none w d M key hs h.rep.head (tab_old h) (tab_young h) (locT_none h1) (locT_none h2)
theorem linkA_at (t i : Nat) (pre : List E) (h : ∀ x ∈ pre, x.val.length = 1) : linkA t i pre = linkAt t i pre := by
  unfold linkA linkAt
  cases hl : pre.getLast? with
  | none => rfl
  | some q =>
    have := h q (List.mem_of_getLast? hl)
    simp only [this]
theorem fields_len (M N : DM) (h1 : N.seed = M.seed) (h2 : N.told = M.told) (h3 : N.old.length = M.old.length) (h4 : N.tyoung = M.tyoung) (h5 : N.young.length = M.young.length) (h6 : N.at_ = M.at_) (h7 : N.n = M.n) :
    fieldsO 109 N = fieldsO 109 M := by
  unfold fieldsO
  rw [h1, h2, h4, h6, h7, tv_len M.told N.old M.old h3, tv_len M.tyoung N.young M.young h5]
theorem dictL_old (d : Nat) (M : DM) (h : M.old ≠ []) : (dictL d M).Perm (((d, fieldsO 109 M) :: tabO 114 112 M.tyoung M.young) ++ ((M.told, rowO 112 M.old) :: chainsO 114 M.old)) := by
  unfold dictL dictO
  rw [tabO_of h, List.cons_append]
  exact List.Perm.cons _ (List.perm_append_comm (l₁ := (M.told, rowO 112 M.old) :: chainsO 114 M.old))
theorem dictL_young (d : Nat) (M : DM) (h : M.young ≠ []) : dictL d M = ((d, fieldsO 109 M) :: tabO 114 112 M.told M.old) ++ ((M.tyoung, rowO 112 M.young) :: chainsO 114 M.young) := by
  unfold dictL dictO
  rw [tabO_of h]; rfl
/-- what lies at the address that find tells -/
theorem loc_cells {w : World} {d t : Nat} {seed : UInt64} {cs : List (List E)} {key : ByteArray} (ht : TabN w t cs) {i : Nat} {pre post : List E} {e : E} (h : locT seed cs key = some (i, pre, e, post)) :
    w.cell? (linkA t i pre) = some (.pointer (some ⟨e.b, 0, none⟩)) ∧ w.heap[e.b]? = some (entryObj 114 e (hp post)) ∧ (∀ x ∈ pre, x.val.length = 1) ∧ cs ≠ [] := by
  obtain ⟨g1, g2, g3, g4⟩ := locT_some h
  have hne : cs ≠ [] := by intro h0; rw [h0] at g2; simp at g2
  obtain ⟨ht, _⟩ := ht hne
  exact ⟨link_cell ht g2, mid_at ht.chains g2, fun x hx => ht.sz _ (List.mem_of_getElem? g2) x (by simp [hx]), hne⟩

theorem find_cells {w : World} {d : Nat} {M : DM} (h : DAt w d M) (key : ByteArray) :
    (findA M key = none ∧ getM M key = none) ∨ ∃ A e nx, findA M key = some A ∧ getM M key = some e.val ∧ e ∈ entries M ∧ e.key = key ∧ w.cell? A = some (.pointer (some ⟨e.b, 0, none⟩)) ∧ w.heap[e.b]? = some (entryObj 114 e nx) ∧ Bs (dictL d M) e.b ∧ Bs (dictL d M) A.block := by
  cases h1 : locT M.seed M.old key with
  | some x =>
    right
    obtain ⟨i, pre, e, post⟩ := x
    obtain ⟨c1, c2, c3, c4⟩ := loc_cells (d := d) (tab_old h) h1
    obtain ⟨g1, g2, g3, g4⟩ := locT_some h1
    have hmem : e ∈ entries M := (entries_old M key i pre post e h1).1.mem_iff.2 (by simp)
    have hd := tab_del (h.rep.perm (dictL_old d M c4)) (h.nd.perm (dictL_old d M c4)) g2
    have hb := (Bs.perm (dictL_old d M c4)).2 hd.2.2.2
    rw [← linkA_at _ _ _ c3] at hb
    refine ⟨linkA M.told i pre, e, hp post, by unfold findA; rw [h1], by unfold getM; rw [h1], hmem, g3, c1, c2, ?_, hb⟩
    rw [Bs.perm (dictL_old d M c4), Bs.append_iff]
    refine .inr (Bs.cons_iff.2 (.inr ?_))
    rw [Bs.perm (chains_entry M.old i pre post e g2)]
    exact Bs.cons_iff.2 (.inl rfl)
  | none =>
    cases h2 : locT M.seed M.young key with
    | none => exact .inl ⟨by unfold findA; rw [h1, h2]; rfl, by unfold getM; rw [h1, h2]; rfl⟩
    | some x =>
      right
      obtain ⟨i, pre, e, post⟩ := x
      obtain ⟨c1, c2, c3, c4⟩ := loc_cells (d := d) (tab_young h) h2
      obtain ⟨g1, g2, g3, g4⟩ := locT_some h2
      have hmem : e ∈ entries M := (entries_young M key i pre post e h2).1.mem_iff.2 (by simp)
      have hr := h.rep
      have hn := h.nd
      rw [dictL_young d M c4] at hr hn
      have hd := tab_del hr hn g2
      have hb := hd.2.2.2
      rw [← linkA_at _ _ _ c3] at hb
      refine ⟨linkA M.tyoung i pre, e, hp post, by unfold findA; rw [h1, h2]; rfl, by unfold getM; rw [h1, h2]; rfl, hmem, g3, c1, c2, ?_, by rw [dictL_young d M c4]; exact hb⟩
      rw [dictL_young d M c4, Bs.append_iff]
      refine .inr (Bs.cons_iff.2 (.inr ?_))
      rw [Bs.perm (chains_entry M.young i pre post e g2)]
      exact Bs.cons_iff.2 (.inl rfl)
theorem len_any (w : World) (d : Nat) (M : DM) (h : DAt w d M) (hn : M.n < 9223372036854775808) :
    Calls Try.prog 26 #[.pointer (some ⟨d, 0, none⟩)] w fun x w' => x = .returned (.int .i64 M.n) ∧ w = w' := by
  obtain ⟨f0, f1, f2, f3, f4, f5⟩ := blk_field h.rep.head
  clear h f0 f1 f2 f3 f5
  go_enter Try.func26, Try.ntmps26
  go_wp2
  go_ret
  exact ⟨rfl, rfl⟩
theorem len_tv (w : World) (t : Nat) (cs : List (List E)) : ∃ a, tv t cs = .slice a cs.length cs.length := by
  by_cases hc : cs = []
  · subst hc; exact ⟨none, tv_nil⟩
  · exact ⟨_, tv_of hc⟩
theorem sizes_any (w : World) (d : Nat) (M : DM) (h : DAt w d M) :
    Calls Try.prog 27 #[.pointer (some ⟨d, 0, none⟩)] w fun x w' => x = .returned (.tuple #[.int .i64 M.old.length, .int .i64 M.young.length, .int .i64 M.at_]) ∧ ∃ m, w' = w.drewN m := by
  obtain ⟨f0, f1, f2, f3, f4, f5⟩ := blk_field h.rep.head
  obtain ⟨a1, e1⟩ := len_tv w M.told M.old
  obtain ⟨a2, e2⟩ := len_tv w M.tyoung M.young
  rw [e1] at f1
  rw [e2] at f2
  have h1 := h.lold
  have h2 := h.lyoung
  clear h f0 f4 f5 e1 e2
  go_enter Try.func27, Try.ntmps27
  go_wp2
  go_quiet (fail)
  go_wp2
  go_ret3
  exact ⟨rfl, nq, rfl⟩

/-- a value as the program hands it on -/
def vOf (l : List Value) : Value := l.headD undef
def zV : Value := .int .i64 0
def gotV (o : Option (List Value)) : Value := .tuple #[match o with | some l => vOf l | none => zV, .bool o.isSome]
theorem get_any (w : World) (d : Nat) (M : DM) (key : ByteArray) (hs : key.size ≤ maxLen) (h : DAt w d M) :
    Calls Try.prog 23 #[.pointer (some ⟨d, 0, none⟩), .string key] w fun x w' =>
      x = .returned (gotV (getM (stepM M) key)) ∧ DAt w' d (stepM M) ∧ Fr (Bs (dictL d M)) w w' := by
  have HS := Lib.hid (step_any w d M h)
  clear h
  obtain ⟨g, hg⟩ : ∃ g, getM (stepM M) key = g := ⟨_, rfl⟩
  rw [hg]
  have HG := Lib.hid hg; clear hg
  go_enter Try.func23, Try.ntmps23
  go_wp2_with fail
  refine HS.out.mono ?_
  rintro e w1 ⟨rfl, h1, hfr⟩
  have HF := find_any w1 d (stepM M) key hs h1
  rcases find_cells h1 key with ⟨k1, k2⟩ | ⟨A, e, nx, k1, k2, k3, k4, k5, k6, k7, k8⟩
  · rw [k1] at HF
    have HF2 := Lib.hid HF; clear HF
    have hg : g = none := HG.out.symm.trans k2
    subst hg
    have H1 := Lib.hid h1; clear h1
    go_wp2_with fail
    refine HF2.out.mono ?_
    rintro e w' ⟨rfl, rfl⟩
    go_wp2
    go_ret2
    exact ⟨rfl, H1.out, hfr⟩
  · rw [k1] at HF
    have HF2 := Lib.hid HF; clear HF
    have hg : g = some e.val := HG.out.symm.trans k2
    subst hg
    have hz := (h1.sz e k3).1
    have hv := cell_of_blk k6
    have H1 := Lib.hid h1; clear h1
    clear k1 k2 k3 k4 k7 k8 k6
    match hev : e.val, hz with
    | [x0], _ =>
      have hc : w1.cell? ⟨e.b, 1, none⟩ = some x0 := by rw [hv 1, hev]; rfl
      go_wp2_with fail
      refine HF2.out.mono ?_
      rintro e w' ⟨rfl, rfl⟩
      go_wp2
      go_ret2
      exact ⟨by rw [hev]; rfl, H1.out, hfr⟩
end Go.Proofs.Ytkecipdonamjaaa.Di

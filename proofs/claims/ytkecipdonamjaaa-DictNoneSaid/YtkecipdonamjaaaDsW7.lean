/- The walk of package dict's Delete at string. -/
import Derived.Test.YtkecipdonamjaaaDsW6
namespace Go.Proofs.Ytkecipdonamjaaa.Ds
open Go.RowKit

def DropMid (w : World) (d : Nat) (G N : DM) (wc : World) : Prop :=
  Rep wc (dictL d { N with n := G.n }) ∧ Nd (dictL d { N with n := G.n }) ∧ Fr (Bs (dictL d G)) w wc
theorem nx_ptr (c : List E) : ∃ p, hp c = .pointer p := by cases c <;> exact ⟨_, rfl⟩
theorem drop_bs {M N : DM} (d : Nat) (h : Inv M) (key : ByteArray) (hN : dropM M key = some N) (k : Nat) (hk : Bs (dictL d N) k) : Bs (dictL d M) k := by
  obtain ⟨i1, i2, i3, i4, i5, i6, i7, i8, i9, i10⟩ := inv_drop h key hN
  have hb : ∀ k, k ∈ (entries N).map E.b → k ∈ (entries M).map E.b := by
    unfold dropM at hN
    cases h1 : locT M.seed M.old key with
    | some x =>
      obtain ⟨i, pre, e, post⟩ := x
      rw [h1] at hN
      simp only [Option.some.injEq] at hN
      subst hN
      have hp := ((entries_old M key i pre post e h1).1.map E.b)
      exact fun k hk => hp.mem_iff.2 (by rw [List.map_cons]; exact List.mem_cons_of_mem _ hk)
    | none =>
      rw [h1] at hN
      simp only at hN
      cases h2 : locT M.seed M.young key with
      | none => rw [h2] at hN; cases hN
      | some x =>
        obtain ⟨i, pre, e, post⟩ := x
        rw [h2] at hN
        simp only [Option.some.injEq] at hN
        subst hN
        have hp := ((entries_young M key i pre post e h2).1.map E.b)
        exact fun k hk => hp.mem_iff.2 (by rw [List.map_cons]; exact List.mem_cons_of_mem _ hk)
  rw [dict_bs] at hk ⊢
  rw [i9, i10] at hk
  rcases hk with h1 | ⟨h1, h2⟩ | ⟨h1, h2⟩ | h1
  · exact .inl h1
  · exact .inr (.inl ⟨len_ne i4 h1, h2⟩)
  · exact .inr (.inr (.inl ⟨len_ne i5 h1, h2⟩))
  · exact .inr (.inr (.inr (hb k h1)))
theorem frozen_linkA {w : World} {t : Nat} {cs : List (List E)} {i : Nat} {pre post : List E} (h : Tab w t cs) (hc : cs[i]? = some (pre ++ post)) : w.frozen? (linkA t i pre) = false := by
  unfold linkA
  cases hl : pre.getLast? with
  | none => exact free_of_blk h.row i
  | some q =>
    obtain ⟨pre', rfl⟩ := List.getLast?_eq_some_iff.1 hl
    have hm := mid_at (e := q) (pre := pre') (post := post) h.chains (by rw [hc]; simp)
    exact free_of_blk hm 2
theorem linkA_spot (t i : Nat) (pre : List E) : ∃ b o, linkA t i pre = ⟨b, o, none⟩ := by
  unfold linkA
  split <;> exact ⟨_, _, rfl⟩
theorem del_dat {w : World} {d : Nat} {M : DM} (h : DAt w d M) (key : ByteArray) :
    (findA M key = none ∧ dropM M key = none) ∨ ∃ b o e p N, findA M key = some ⟨b, o, none⟩ ∧ w.cell? ⟨b, o, none⟩ = some (.pointer (some ⟨e, 0, none⟩)) ∧ w.frozen? ⟨b, o, none⟩ = false ∧ w.cell? ⟨e, 2, none⟩ = some (.pointer p) ∧
      dropM M key = some N ∧ ∀ W, W = w.setCell ⟨b, o, none⟩ (.pointer p) → DropMid w d M N W := by
  cases h1 : locT M.seed M.old key with
  | some y =>
    right
    obtain ⟨i, pre, e, post⟩ := y
    obtain ⟨c1, c2, c3, c4⟩ := loc_cells (d := d) (tab_old h) h1
    obtain ⟨g1, g2, g3, g4⟩ := locT_some h1
    obtain ⟨b, o, hA⟩ := linkA_spot M.told i pre
    obtain ⟨p, hp'⟩ := nx_ptr post
    have hmem : e ∈ entries M := (entries_old M key i pre post e h1).1.mem_iff.2 (by simp)
    have hz := h.sz e hmem
    have hfz := frozen_linkA (tab_old h c4).1 g2
    obtain ⟨r1, r2, r3, r4⟩ := drop_old h.rep h.nd g2
    rw [← linkA_at _ _ _ c3, hA, hp'] at r1
    rw [← linkA_at _ _ _ c3, hA] at r4
    refine ⟨b, o, e.b, p, { M with old := delT M.old i pre post, n := M.n - 1 }, by unfold findA; rw [h1, ← hA], by rw [← hA]; exact c1, by rw [← hA]; exact hfz, ?_, by unfold dropM; rw [h1], ?_⟩
    · rw [cell_of_blk c2, hp']
      match hv : e.val, hz.1 with
      | [x0], _ => rfl
    · rintro W rfl
      exact ⟨r1, r2, (Fr.refl _ w).thenSet _ _ (fun _ => r4)⟩
  | none =>
    cases h2 : locT M.seed M.young key with
    | none => exact .inl ⟨by unfold findA; rw [h1, h2]; rfl, by unfold dropM; rw [h1, h2]⟩
    | some y =>
      right
      obtain ⟨i, pre, e, post⟩ := y
      obtain ⟨c1, c2, c3, c4⟩ := loc_cells (d := d) (tab_young h) h2
      obtain ⟨g1, g2, g3, g4⟩ := locT_some h2
      obtain ⟨b, o, hA⟩ := linkA_spot M.tyoung i pre
      obtain ⟨p, hp'⟩ := nx_ptr post
      have hmem : e ∈ entries M := (entries_young M key i pre post e h2).1.mem_iff.2 (by simp)
      have hz := h.sz e hmem
      have hfz := frozen_linkA (tab_young h c4).1 g2
      obtain ⟨r1, r2, r3, r4⟩ := drop_young h.rep h.nd g2
      rw [← linkA_at _ _ _ c3, hA, hp'] at r1
      rw [← linkA_at _ _ _ c3, hA] at r4
      refine ⟨b, o, e.b, p, { M with young := delT M.young i pre post, n := M.n - 1 }, by unfold findA; rw [h1, h2, ← hA]; rfl, by rw [← hA]; exact c1, by rw [← hA]; exact hfz, ?_, by unfold dropM; rw [h1, h2], ?_⟩
      · rw [cell_of_blk c2, hp']
        match hv : e.val, hz.1 with
        | [x0], _ => rfl
      · rintro W rfl
        exact ⟨r1, r2, (Fr.refl _ w).thenSet _ _ (fun _ => r4)⟩
theorem drop_sz {w : World} {d : Nat} {M N : DM} (h : DAt w d M) (key : ByteArray) (hN : dropM M key = some N) : ∀ e ∈ entries N, e ∈ entries M := by
  unfold dropM at hN
  cases h1 : locT M.seed M.old key with
  | some x =>
    obtain ⟨i, pre, e, post⟩ := x
    rw [h1] at hN
    simp only [Option.some.injEq] at hN
    subst hN
    have hp := (entries_old M key i pre post e h1).1
    exact fun k hk => hp.mem_iff.2 (List.mem_cons_of_mem _ hk)
  | none =>
    rw [h1] at hN
    simp only at hN
    cases h2 : locT M.seed M.young key with
    | none => rw [h2] at hN; cases hN
    | some x =>
      obtain ⟨i, pre, e, post⟩ := x
      rw [h2] at hN
      simp only [Option.some.injEq] at hN
      subst hN
      have hp := (entries_young M key i pre post e h2).1
      exact fun k hk => hp.mem_iff.2 (List.mem_cons_of_mem _ hk)
theorem drop_turn {w wc : World} {d : Nat} {M N : DM} (h : DAt w d M) (key : ByteArray) (hN : dropM M key = some N) (hm : DropMid w d M N wc) (W : World) (hW : W = wc.setCell ⟨d, 4, none⟩ (.int .i64 (N.n : Int))) : Turn w d M W N := by
  obtain ⟨i1, i2, i3, i4, i5, i6, i7, i8, i9, i10⟩ := inv_drop h.inv key hN
  obtain ⟨m1, m2, m3⟩ := hm
  refine ⟨⟨?_, nd_at m2 N.at_ N.n, fun e he => h.sz e (drop_sz h key hN e he), i1, by rw [i4]; exact h.lold, by rw [i5]; exact h.lyoung⟩, ?_, fun k hk => .inl (drop_bs d h.inv key hN k hk)⟩
  · rw [hW]
    exact dict_n m1 m2 N.n
  · rw [hW]; exact m3.thenSet _ _ (fun _ => in_d d M)
theorem shrink_turn {w : World} {d : Nat} {N : DM} (h : DAt w d N) (hn : N.n < 17592186044416) (hc : N.young = [] ∧ 4 < N.old.length ∧ 8 * N.n ≤ N.old.length) (s : Nat) (hs : fitM N.n 64 4 = s) (W : World) (m : Nat)
    (hW : W = ((w.drewN m).alloc (.cells (Array.replicate s (.pointer none)) 139)).setCell ⟨d, 2, none⟩ (.slice (some ⟨w.heap.size, 0, none⟩) s s)) : Turn w d N W (shrinkM N w.heap.size) := by
  have hg : shrinkM N w.heap.size = { N with young := List.replicate s [], tyoung := w.heap.size } := by unfold shrinkM; rw [if_pos hc, hs]
  obtain ⟨i, hi, he⟩ := fitM_pow N.n 64 4 2 rfl (by decide)
  have hpos : 0 < s := by rw [← hs, he]; exact Nat.two_pow_pos i
  have hle : s ≤ max 4 (2 * N.n) := by rw [← hs]; exact fitM_le N.n 64 4 (by omega)
  rw [show Array.replicate s (Value.pointer none) = (List.replicate s (Value.pointer none)).toArray by simp] at hW
  obtain ⟨r1, r2⟩ := grow_young (w := w.drewN m) (n := s) (h.rep.drewN m) h.nd hc.1 hpos rfl
  obtain ⟨s1, s2⟩ := shrink_inv h.inv w.heap.size
  refine ⟨⟨by rw [hg, hW]; exact r1, by rw [hg]; exact r2, fun e he => h.sz e (by rw [s2] at he; exact he), s1, by rw [hg]; exact h.lold, ?_⟩, ?_, fun k hk => ?_⟩
  · rw [hg]; simp only [List.length_replicate]; omega
  · rw [hW]
    exact (((Fr.refl _ w).thenDrewN m).thenAlloc _).thenSet _ _ (fun _ => in_d d N)
  · rw [dict_bs, s2, hg] at hk
    rw [dict_bs]
    rcases hk with h1 | ⟨h1, h2⟩ | ⟨_, h2⟩ | h1
    · exact .inl (.inl h1)
    · exact .inl (.inr (.inl ⟨h1, h2⟩))
    · exact .inr (Nat.le_of_eq h2.symm)
    · exact .inl (.inr (.inr (.inr h1)))
theorem shrink_not {N : DM} (t : Nat) (hc : ¬ (N.young = [] ∧ 4 < N.old.length ∧ 8 * N.n ≤ N.old.length)) : shrinkM N t = N := by unfold shrinkM; rw [if_neg hc]
end Go.Proofs.Ytkecipdonamjaaa.Ds

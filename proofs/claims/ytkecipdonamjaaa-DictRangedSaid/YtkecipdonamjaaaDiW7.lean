/- The walk of package dict's Delete at int. -/
import Derived.Test.YtkecipdonamjaaaDiW6
namespace Go.Proofs.Ytkecipdonamjaaa.Di
open Go.RowKit

def DropMid (w : World) (d : Nat) (G N : DM) (wc : World) : Prop :=
  Rep wc (dictL d { N with n := G.n }) ∧ Nd (dictL d { N with n := G.n }) ∧ Fr (Bs (dictL d G)) w wc
theorem nx_ptr (c : List E) : ∃ p, hp c = .pointer p := by cases c <;> exact ⟨_, rfl⟩
theorem drop_bs {M N : DM} (d : Nat) (h : Inv M) (key : ByteArray) (hN : dropM M key = some N) (k : Nat) (hk : Bs (dictL d N) k) : Bs (dictL d M) k := by
  obtain ⟨i1, i2, i3, i4, i5, i6, i7, i8, i9, i10⟩ := inv_drop h key hN
  have hb : ∀ k, k ∈ (entries N).map E.b → k ∈ (entries M).map E.b := by
    unfold dropM at hN
    cases h1 : locT M.seed M.old key with
    | some x =>
      obtain ⟨i, pre, e, post⟩ := x
      rw [h1] at hN
      simp only [Option.some.injEq] at hN
      subst hN
      have hp := ((entries_old M key i pre post e h1).1.map E.b)
      exact fun k hk => hp.mem_iff.2 (by rw [List.map_cons]; exact List.mem_cons_of_mem _ hk)
    | none =>
      rw [h1] at hN
      simp only at hN
      cases h2 : locT M.seed M.young key with
      | none => rw [h2] at hN; cases hN
      | some x =>
        obtain ⟨i, pre, e, post⟩ := x
        rw [h2] at hN
        simp only [Option.some.injEq] at hN
        subst hN
        have hp := ((entries_young M key i pre post e h2).1.map E.b)
        exact fun k hk => hp.mem_iff.2 (by rw [List.map_cons]; exact List.mem_cons_of_mem _ hk)
  rw [dict_bs] at hk ⊢
  rw [i9, i10] at hk
  rcases hk with h1 | ⟨h1, h2⟩ | ⟨h1, h2⟩ | h1
  · exact .inl h1
  · exact .inr (.inl ⟨len_ne i4 h1, h2⟩)
  · exact .inr (.inr (.inl ⟨len_ne i5 h1, h2⟩))
  · exact .inr (.inr (.inr (hb k h1)))
theorem frozen_linkA {w : World} {t : Nat} {cs : List (List E)} {i : Nat} {pre post : List E} (h : Tab w t cs) (hc : cs[i]? = some (pre ++ post)) : w.frozen? (linkA t i pre) = false := by
  unfold linkA
  cases hl : pre.getLast? with
  | none => exact free_of_blk h.row i
  | some q =>
    obtain ⟨pre', rfl⟩ := List.getLast?_eq_some_iff.1 hl
    have hm := mid_at (e := q) (pre := pre') (post := post) h.chains (by rw [hc]; simp)
    exact free_of_blk hm 2
theorem linkA_spot (t i : Nat) (pre : List E) : ∃ b o, linkA t i pre = ⟨b, o, none⟩ := by
  unfold linkA
  split <;> exact ⟨_, _, rfl⟩
theorem del_dat {w : World} {d : Nat} {M : DM} (h : DAt w d M) (key : ByteArray) :
    (findA M key = none ∧ dropM M key = none) ∨ ∃ b o e p N, findA M key = some ⟨b, o, none⟩ ∧ w.cell? ⟨b, o, none⟩ = some (.pointer (some ⟨e, 0, none⟩)) ∧ w.frozen? ⟨b, o, none⟩ = false ∧ w.cell? ⟨e, 2, none⟩ = some (.pointer p) ∧
      dropM M key = some N ∧ ∀ W, W = w.setCell ⟨b, o, none⟩ (.pointer p) → DropMid w d M N W := by
  cases h1 : locT M.seed M.old key with
  | some y =>
    right
    obtain ⟨i, pre, e, post⟩ := y
    obtain ⟨c1, c2, c3, c4⟩ := loc_cells (d := d) (tab_old h) h1
    obtain ⟨g1, g2, g3, g4⟩ := locT_some h1
    obtain ⟨b, o, hA⟩ := linkA_spot M.told i pre
    obtain ⟨p, hp'⟩ := nx_ptr post
    have hmem : e ∈ entries M := (entries_old M key i pre post e h1).1.mem_iff.2 (by simp)
    have hz := h.sz e hmem
    have hfz := frozen_linkA (tab_old h c4).1 g2
    obtain ⟨r1, r2, r3, r4⟩ := drop_old h.rep h.nd g2
    rw [← linkA_at _ _ _ c3, hA, hp'] at r1
    rw [← linkA_at _ _ _ c3, hA] at r4
    refine ⟨b, o, e.b, p, { M with old := delT M.old i pre post, n := M.n - 1 }, by unfold findA; rw [h1, ← hA], by rw [← hA]; exact c1, by rw [← hA]; exact hfz, ?_, by unfold dropM; rw [h1], ?_⟩
    · rw [cell_of_blk c2, hp']
      match hv : e.val, hz.1 with
      | [x0], _ => rfl
    · rintro W rfl
      exact ⟨r1, r2, (Fr.refl _ w).thenSet _ _ (fun _ => r4)⟩
  | none =>
    cases h2 : locT M.seed M.young key with
    | none => exact .inl ⟨by unfold findA; rw [h1, h2]; rfl, by unfold dropM; rw [h1, h2]⟩
    | some y =>
      right
      obtain ⟨i, pre, e, post⟩ := y
      obtain ⟨c1, c2, c3, c4⟩ := loc_cells (d := d) (tab_young h) h2
      obtain ⟨g1, g2, g3, g4⟩ := locT_some h2
      obtain ⟨b, o, hA⟩ := linkA_spot M.tyoung i pre
      obtain ⟨p, hp'⟩ := nx_ptr post
      have hmem : e ∈ entries M := (entries_young M key i pre post e h2).1.mem_iff.2 (by simp)
      have hz := h.sz e hmem
      have hfz := frozen_linkA (tab_young h c4).1 g2
      obtain ⟨r1, r2, r3, r4⟩ := drop_young h.rep h.nd g2
      rw [← linkA_at _ _ _ c3, hA, hp'] at r1
      rw [← linkA_at _ _ _ c3, hA] at r4
      refine ⟨b, o, e.b, p, { M with young := delT M.young i pre post, n := M.n - 1 }, by unfold findA; rw [h1, h2, ← hA]; rfl, by rw [← hA]; exact c1, by rw [← hA]; exact hfz, ?_, by unfold dropM; rw [h1, h2], ?_⟩
      · rw [cell_of_blk c2, hp']
        match hv : e.val, hz.1 with
        | [x0], _ => rfl
      · rintro W rfl
        exact ⟨r1, r2, (Fr.refl _ w).thenSet _ _ (fun _ => r4)⟩
theorem drop_sz {w : World} {d : Nat} {M N : DM} (h : DAt w d M) (key : ByteArray) (hN : dropM M key = some N) : ∀ e ∈ entries N, e ∈ entries M := by
  unfold dropM at hN
  cases h1 : locT M.seed M.old key with
  | some x =>
    obtain ⟨i, pre, e, post⟩ := x
    rw [h1] at hN
    simp only [Option.some.injEq] at hN
    subst hN
    have hp := (entries_old M key i pre post e h1).1
    exact fun k hk => hp.mem_iff.2 (List.mem_cons_of_mem _ hk)
  | none =>
    rw [h1] at hN
    simp only at hN
    cases h2 : locT M.seed M.young key with
    | none => rw [h2] at hN; cases hN
    | some x =>
      obtain ⟨i, pre, e, post⟩ := x
      rw [h2] at hN
      simp only [Option.some.injEq] at hN
      subst hN
      have hp := (entries_young M key i pre post e h2).1
      exact fun k hk => hp.mem_iff.2 (List.mem_cons_of_mem _ hk)
theorem drop_turn {w wc : World} {d : Nat} {M N : DM} (h : DAt w d M) (key : ByteArray) (hN : dropM M key = some N) (hm : DropMid w d M N wc) (W : World) (hW : W = wc.setCell ⟨d, 4, none⟩ (.int .i64 (N.n : Int))) : Turn w d M W N := by
  obtain ⟨i1, i2, i3, i4, i5, i6, i7, i8, i9, i10⟩ := inv_drop h.inv key hN
  obtain ⟨m1, m2, m3⟩ := hm
  refine ⟨⟨?_, nd_at m2 N.at_ N.n, fun e he => h.sz e (drop_sz h key hN e he), i1, by rw [i4]; exact h.lold, by rw [i5]; exact h.lyoung⟩, ?_, fun k hk => .inl (drop_bs d h.inv key hN k hk)⟩
  · rw [hW]
    exact dict_n m1 m2 N.n
  · rw [hW]; exact m3.thenSet _ _ (fun _ => in_d d M)
theorem shrink_turn {w : World} {d : Nat} {N : DM} (h : DAt w d N) (hn : N.n < 17592186044416) (hc : N.young = [] ∧ 4 < N.old.length ∧ 8 * N.n ≤ N.old.length) (s : Nat) (hs : fitM N.n 64 4 = s) (W : World) (m : Nat)
    (hW : W = ((w.drewN m).alloc (.cells (Array.replicate s (.pointer none)) 112)).setCell ⟨d, 2, none⟩ (.slice (some ⟨w.heap.size, 0, none⟩) s s)) : Turn w d N W (shrinkM N w.heap.size) := by
  have hg : shrinkM N w.heap.size = { N with young := List.replicate s [], tyoung := w.heap.size } := by unfold shrinkM; rw [if_pos hc, hs]
  obtain ⟨i, hi, he⟩ := fitM_pow N.n 64 4 2 rfl (by decide)
  have hpos : 0 < s := by rw [← hs, he]; exact Nat.two_pow_pos i
  have hle : s ≤ max 4 (2 * N.n) := by rw [← hs]; exact fitM_le N.n 64 4 (by omega)
  rw [show Array.replicate s (Value.pointer none) = (List.replicate s (Value.pointer none)).toArray by simp] at hW
  obtain ⟨r1, r2⟩ := grow_young (w := w.drewN m) (n := s) (h.rep.drewN m) h.nd hc.1 hpos rfl
  obtain ⟨s1, s2⟩ := shrink_inv h.inv w.heap.size
  refine ⟨⟨by rw [hg, hW]; exact r1, by rw [hg]; exact r2, fun e he => h.sz e (by rw [s2] at he; exact he), s1, by rw [hg]; exact h.lold, ?_⟩, ?_, fun k hk => ?_⟩
  · rw [hg]; simp only [List.length_replicate]; omega
  · rw [hW]
    exact (((Fr.refl _ w).thenDrewN m).thenAlloc _).thenSet _ _ (fun _ => in_d d N)
  · rw [dict_bs, s2, hg] at hk
    rw [dict_bs]
    rcases hk with h1 | ⟨h1, h2⟩ | ⟨_, h2⟩ | h1
    · exact .inl (.inl h1)
    · exact .inl (.inr (.inl ⟨h1, h2⟩))
    · exact .inr (Nat.le_of_eq h2.symm)
    · exact .inl (.inr (.inr (.inr h1)))
theorem shrink_not {N : DM} (t : Nat) (hc : ¬ (N.young = [] ∧ 4 < N.old.length ∧ 8 * N.n ≤ N.old.length)) : shrinkM N t = N := by unfold shrinkM; rw [if_neg hc]
set_option maxRecDepth 100000 in
set_option maxHeartbeats 2000000 in
theorem del_any (w : World) (d : Nat) (M : DM) (key : ByteArray) (hs : key.size ≤ maxLen) (h : DAt w d M) (hn : M.n < 17592186044416) :
    Calls Try.prog 24 #[.pointer (some ⟨d, 0, none⟩), .string key] w fun e w' =>
      e = .returned (.bool (hasK (tb M) key)) ∧ ∃ t, Turn w d M w' (delM M key t) := by
  have HS := Lib.hid (step_turn w d M h)
  have HI := Lib.hid h.inv
  have hnn : Hid ((stepM M).n = M.n) := (step_lens M).2.2.2
  clear h
  go_enter Try.func24, Try.ntmps24
  go_wp2_with fail
  refine HS.out.mono ?_
  rintro e w1 ⟨rfl, T1⟩
  have h1 := T1.at_
  have HF := find_any w1 d (stepM M) key hs h1
  obtain ⟨G, hG⟩ : ∃ G, stepM M = G := ⟨_, rfl⟩
  rcases del_dat h1 key with ⟨k1, k2⟩ | ⟨b, o, e, p, N, k1, k3, k4, k5, k6, k7⟩
  · rw [k1] at HF
    have HF2 := Lib.hid HF; clear HF
    have hhas := hasnt_of HI.out key (drop_none h1.inv key k2).1
    have HH := Lib.hid hhas; clear hhas
    have HT := Lib.hid T1
    have HK := Lib.hid k2
    clear h1 k1 k2 hG T1
    go_wp2_with fail
    refine HF2.out.mono ?_
    rintro e w' ⟨rfl, rfl⟩
    go_wp2
    go_ret
    refine ⟨by rw [HH.out]; rfl, 0, ?_⟩
    have : delM M key 0 = stepM M := by unfold delM; rw [HK.out]
    rw [this]; exact HT.out
  · rw [k1] at HF
    have HF2 := Lib.hid HF; clear HF
    obtain ⟨i1, i2, i3, i4, i5, i6, i7, i8, i9, i10⟩ := inv_drop h1.inv key k6
    have hhas : hasK (tb M) key = true := by
      rw [← hasK_perm (tb_perm (step_perm M HI.out))]
      obtain ⟨u, hu⟩ := i3
      simp only [hasK, List.any_eq_true, decide_eq_true_eq]
      exact ⟨_, hu, rfl⟩
    have HH := Lib.hid hhas; clear hhas
    have HN7 : Hid (N.n + 1 = (stepM M).n) := i7
    have hNn : N.n < 17592186044416 := by have := hnn.out; omega
    clear i1 i2 i3 i4 i5 i6 i7 i8 i9 i10 k1
    rw [hG] at h1 T1 k6 k7 hnn HN7
    have HGG := Lib.hid hG; clear hG
    have H1 := Lib.hid h1
    have HT := Lib.hid T1
    have HK6 := Lib.hid k6
    have HK7 := Lib.hid k7
    clear T1 k6 k7 h1
    go_wp2_with fail
    refine HF2.out.mono ?_
    rintro e' w' ⟨rfl, rfl⟩
    go_upto_region 7 with (fail)
    go_cut [] from 5 to 200 (fun wc => DropMid w1 d G N wc)
    case first =>
      go_wp2
      go_meet
      case rel => exact HK7.out _ rfl
    case rest =>
      have HD := Lib.hid hcut
      obtain ⟨f0, f1, f2, f3, f4, f5⟩ := blk_field hcut.1.head
      simp only at f4
      have fz4 := f5 4
      have hpos : (1 : Int) ≤ G.n := by have := HN7.out; omega
      have hle : (G.n : Int) < 17592186044416 := by have := HN7.out; have := hnn.out; omega
      clear k3 k4 k5 hcut f0 f1 f2 f3 f5
      go_upto_region 8 with (fail)
      go_cut [] from 5 to 200 (fun we => Turn w1 d G we N)
      case first =>
        go_wp2
        go_meet
        case rel => exact drop_turn H1.out key HK6.out HD.out _ (by have := HN7.out; rw [show ((N.n : Nat) : Int) = (G.n : Int) - 1 by omega])
      case rest =>
        obtain ⟨we, rfl⟩ : ∃ we, we = wc := ⟨_, rfl⟩
        obtain ⟨f0, f1, f2, f3, f4, f5⟩ := blk_field hcut.at_.rep.head
        have HM := fun b hb m => moving_q we m d N.tyoung N.young b hb (by have := hcut.at_.lyoung; omega) f2
        have hlo := hcut.at_.lold
        have HTD := Lib.hid hcut
        obtain ⟨a1, e1⟩ := len_tv we N.told N.old
        rw [e1] at f1
        have e1' := Lib.hid e1
        clear f0 f3 f5 fz4 hpos hle hcut e1
        have hend : ∀ t W, Turn we d N W (shrinkM N t) → Turn w d M W (delM M key t) := fun t W hT => by
          have : delM M key t = shrinkM N t := by unfold delM; rw [HGG.out, HK6.out]
          rw [this]
          exact (HT.out.trans HTD.out).trans hT
        have HE := Lib.hid hend; clear hend
        go_upto_region 9 with (fail)
        by_cases hy : N.young = []
        case neg =>
          have HMV := Lib.hid (HM true (by simp [hy]))
          have HX : Hid (∀ m, Turn we d N (we.drewN m) (shrinkM N 0)) := fun m => by
            rw [shrink_not 0 (fun h => hy h.1)]
            exact ⟨HTD.out.at_.drewN m, (Fr.refl _ we).thenDrewN m, fun k h => .inl h⟩
          clear HM hy f1 f2 f4
          go_quiet ((go_at_call 65; exact HMV.out _))
          go_wp2_with fail
          go_ret
          exact ⟨by rw [HH.out]; rfl, 0, HE.out 0 _ (HX.out _)⟩
        case pos =>
          have HMV := Lib.hid (HM false (by simp [hy]))
          have f2' : Hid (we.cell? ⟨d, 2, none⟩ = some (tv N.tyoung N.young)) := f2
          have HY := Lib.hid hy
          clear HM hy f2
          by_cases h4 : 4 < N.old.length
          case neg =>
            have HX : Hid (∀ m, Turn we d N (we.drewN m) (shrinkM N 0)) := fun m => by
              rw [shrink_not 0 (fun h => h4 h.2.1)]
              exact ⟨HTD.out.at_.drewN m, (Fr.refl _ we).thenDrewN m, fun k h => .inl h⟩
            have g4 : decide ((4 : Int) < N.old.length) = false := by simp; omega
            clear h4 f4
            go_quiet ((go_at_call 65; exact HMV.out _))
            go_wp2_with fail
            go_ret
            exact ⟨by rw [HH.out]; rfl, 0, HE.out 0 _ (HX.out _)⟩
          case pos =>
            have g4 : decide ((4 : Int) < N.old.length) = true := by simp; omega
            have w8 : IntKind.i64.wrap (8 * (N.n : Int)) = 8 * (N.n : Int) := by rw [IntKind.wrap_i64]; omega
            by_cases h8 : 8 * N.n ≤ N.old.length
            case neg =>
              have HX : Hid (∀ m, Turn we d N (we.drewN m) (shrinkM N 0)) := fun m => by
                rw [shrink_not 0 (fun h => h8 h.2.2)]
                exact ⟨HTD.out.at_.drewN m, (Fr.refl _ we).thenDrewN m, fun k h => .inl h⟩
              have g8 : decide (8 * (N.n : Int) ≤ N.old.length) = false := by simp; omega
              clear h4 h8
              go_quiet ((go_at_call 65; exact HMV.out _))
              go_wp2_with fail
              go_ret
              exact ⟨by rw [HH.out]; rfl, 0, HE.out 0 _ (HX.out _)⟩
            case pos =>
              have HC : Hid (N.young = [] ∧ 4 < N.old.length ∧ 8 * N.n ≤ N.old.length) := ⟨HY.out, h4, h8⟩
              have g8 : decide (8 * (N.n : Int) ≤ N.old.length) = true := by simp; omega
              clear h4 h8
              go_quiet ((go_at_call 65; exact HMV.out _))
              clear g4 g8 w8
              go_wp2_with fail
              go_loopw [6] (fun s wr => wr = we.drewN nq ∧ ∃ k f : Nat, s = .int .i64 ((2 ^ (k + 2) : Nat) : Int) ∧ k + f = 64 ∧ k < 62 ∧ Hid (fitM N.n f (2 ^ (k + 2)) = fitM N.n 64 4)) (fun s _ => N.n - (intOf s).toNat)
              case atStart => exact ⟨rfl, 0, 64, rfl, rfl, by omega, rfl⟩
              case round =>
                obtain ⟨rfl, k, f, rfl, hkf, hk62, HF⟩ := hrel
                obtain ⟨s, hs⟩ : ∃ s, s = 2 ^ (k + 2) := ⟨_, rfl⟩
                rw [← hs] at HF ⊢
                have HSS := Lib.hid hs
                have hspos : 0 < s := by rw [hs]; exact Nat.two_pow_pos _
                by_cases hlt : s < N.n
                · have hk2 : k < 44 := by
                    refine Nat.lt_of_not_le fun hge => ?_
                    have := Nat.pow_le_pow_right (show 0 < 2 by decide) (show 44 ≤ k + 2 by omega)
                    rw [← hs] at this
                    omega
                  clear hs
                  go_wp2
                  go_roundw
                  case rel =>
                    refine ⟨trivial, k + 1, f - 1, ?_, by omega, by omega, ?_⟩
                    · have e : s * 2 = 2 ^ (k + 1 + 2) := by rw [HSS.out]; rw [Nat.pow_succ 2 (k + 2)]
                      rw [← e, Int.natCast_mul]; rfl
                    · show _ = _
                      rw [← HF.out]
                      conv => rhs; rw [show f = (f - 1) + 1 by omega]; unfold fitM
                      rw [if_pos hlt, HSS.out, Nat.pow_succ 2 (k + 2), Nat.mul_comm]
                  case measure => simp [intOf]; omega
                · have hfit : fitM N.n f s = s := by
                    cases f with
                    | zero => rfl
                    | succ f => unfold fitM; rw [if_neg hlt]
                  rw [hfit] at HF
                  have hsle : s ≤ 35184372088832 := by
                    have h1 := HF.out
                    have h2 := fitM_le N.n 64 4 (by omega)
                    omega
                  have hmk : ∀ w : World, (Instr.makeSlice 107 (.int .i64 (s : Int)) (.int .i64 (s : Int))).run Try.prog w = .ok (.slice (some ⟨w.heap.size, 0, none⟩) s s) (w.alloc (.cells (List.replicate s (.pointer none)).toArray 112)) :=
                    fun w => mk_any (P := Try.prog) 107 112 _ _ (.pointer none) (by kernel_rfl) rfl rfl rfl rfl rfl s hsle w
                  have f2 := f2'.out
                  rw [HY.out, tv_nil] at f2
                  have hd1 : d < we.heap.size := HTD.out.at_.rep.lt (in_d d N)
                  have fz2 : we.frozen? ⟨d, 2, none⟩ = false := free_of_blk HTD.out.at_.rep.head 2
                  have fzq : ∀ n o, ((we.drewN n).alloc o).frozen? ⟨d, 2, none⟩ = false := fun n o => (World.frozen?_alloc_past (w := we.drewN n) o d 2 hd1).trans fz2
                  have f2q : ∀ n o, ((we.drewN n).alloc o).cell? ⟨d, 2, none⟩ = some (.slice none 0 0) := fun n o => (Fr.alloc (fun _ => False) (we.drewN n) o).cell f2 (fun h => h)
                  clear hs hfit hkf
                  go_wp2
                  go_ret
                  exact ⟨by rw [HH.out]; rfl, we.heap.size, HE.out _ _ (shrink_turn HTD.out.at_ hNn HC.out s HF.out.symm _ nq rfl)⟩
end Go.Proofs.Ytkecipdonamjaaa.Di

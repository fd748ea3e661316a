/- The walk of package dict's step at int. -/
import Derived.Test.YtkecipdonamjaaaDiW2
import Derived.Deep.Cut
import Derived.Deep.CutBlock
namespace Go.Proofs.Ytkecipdonamjaaa.Di
open Go.RowKit

abbrev dictL (d : Nat) (M : DM) : Hl := dictO 114 112 109 d M
/-- a dict in memory at block d -/
structure DAt (w : World) (d : Nat) (M : DM) : Prop where
  rep : Rep w (dictL d M)
  nd : Nd (dictL d M)
  sz : ∀ e ∈ entries M, e.val.length = 1 ∧ e.key.size ≤ maxLen
  inv : Inv M
  lold : M.old.length ≤ 35184372088832
  lyoung : M.young.length ≤ 35184372088832

theorem step_still (w : World) (d : Nat) (M : DM) (h : DAt w d M) (hy : M.young = []) :
    Calls Try.prog 63 #[.pointer (some ⟨d, 0, none⟩)] w fun x w' => x = .returned (.tuple #[]) ∧ w = w' := by
  obtain ⟨f0, f1, f2, f3, f4, f5⟩ := blk_field h.rep.head
  have HM := Lib.hid (moving_any w d M.tyoung M.young (by have := h.lyoung; omega) f2)
  rw [hy] at HM
  clear f0 f1 f2 f3 f4 f5
  go_enter Try.func63, Try.ntmps63
  go_wp2_with fail
  refine HM.out.mono ?_
  rintro e w' ⟨rfl, rfl⟩
  go_wp2
  refine bodyPost_ret (results_none rfl _ _ _) rfl ?_
  exact ⟨rfl, rfl⟩

theorem dat_step {w w' : World} {d : Nat} {M : DM} (h : DAt w d M) (rep : Rep w' (dictL d (stepM M))) (nd : Nd (dictL d (stepM M))) : DAt w' d (stepM M) := by
  have hp := step_perm M h.inv
  have hl := step_lens M
  refine ⟨rep, nd, fun e he => h.sz e (hp.mem_iff.1 he), inv_step M h.inv, ?_, ?_⟩
  · have := h.lold; have := h.lyoung; omega
  · have := h.lyoung; omega
theorem nd_at {d : Nat} {M : DM} (h : Nd (dictL d M)) (a n : Nat) : Nd (dictL d { M with at_ := a, n := n }) := h
set_option maxRecDepth 100000 in
set_option maxHeartbeats 2000000 in
theorem step_moving (w : World) (d : Nat) (M : DM) (h : DAt w d M) (hy : M.young ≠ []) :
    Calls Try.prog 63 #[.pointer (some ⟨d, 0, none⟩)] w fun x w' => x = .returned (.tuple #[]) ∧ DAt w' d (stepM M) ∧ Fr (Bs (dictL d M)) w w' := by
  obtain ⟨f0, f1, f2, f3, f4, f5⟩ := blk_field h.rep.head
  have HM := Lib.hid (moving_any w d M.tyoung M.young (by have := h.lyoung; omega) f2)
  clear f0 f1 f2 f3 f4 f5
  have hd : decide (M.young ≠ []) = true := by simpa using hy
  rw [hd] at HM
  have hol : M.old ≠ [] := by intro h0; have := h.inv.moving hy; rw [h0] at this; simp at this
  have hml := h.inv.moving hy
  have hL := h.lold
  go_enter Try.func63, Try.ntmps63
  go_wp2_with fail
  refine HM.out.mono ?_
  rintro e w' ⟨rfl, rfl⟩
  go_upto_block 0 with (fail)
  go_cut [2] from 8 (fun s2 wc => ∃ a : Nat, passM M.old 10 M.at_ = a ∧ Rep wc (dictL d { M with at_ := a }) ∧ Fr (fun b => b = d) w wc)
  case first =>
    go_wp2
    go_loopw [2] (fun kk wr => ∃ k a : Nat, kk = .int .i64 k ∧ k ≤ 10 ∧ a ≤ M.old.length ∧ passM M.old (10 - k) a = passM M.old 10 M.at_ ∧ Rep wr (dictL d { M with at_ := a }) ∧ Fr (fun b => b = d) w wr) (fun kk _ => 10 - (intOf kk).toNat)
    case atStart => exact ⟨0, M.at_, rfl, by omega, by omega, rfl, h.rep, Fr.refl _ _⟩
    case round =>
      obtain ⟨k, a, rfl, hk, ha, hpass, hrep, hfr⟩ := hrel
      obtain ⟨f0, f1, f2, f3, f4, f5⟩ := blk_field hrep.head
      have HR := Lib.hid hrep
      rw [show ({ M with at_ := a } : DM).old = M.old from rfl, show ({ M with at_ := a } : DM).told = M.told from rfl, tv_of hol] at f1
      simp only at f3
      have g3 : (0 : Int) ≤ a := by omega
      have HP := Lib.hid hpass; clear hpass
      have hrow := (dict_row_old hrep hol).1
      clear hrep
      by_cases hk10 : k < 10
      case neg =>
        have g1 : decide ((k : Int) < 10) = false := by simp; omega
        go_wp2
        go_quiet (fail)
        go_wp2
        go_meet
        case rel =>
          refine ⟨a, ?_, HR.out.drewN _, hfr.thenDrewN _⟩
          rw [← HP.out, show 10 - k = 0 by omega]; rfl
      have g1 : decide ((k : Int) < 10) = true := by simp; omega
      by_cases hal : a < M.old.length
      case neg =>
        have g2 : decide (a < M.old.length) = false := by simpa using hal
        go_wp2
        go_quiet (fail)
        go_wp2
        go_meet
        case rel =>
          refine ⟨a, ?_, HR.out.drewN _, hfr.thenDrewN _⟩
          rw [← HP.out]
          obtain ⟨j, hj⟩ : ∃ j, 10 - k = j + 1 := ⟨9 - k, by omega⟩
          rw [hj]
          unfold passM
          rw [List.getElem?_eq_none (by omega)]
      have g2 : decide (a < M.old.length) = true := by simpa using hal
      have g4 : (a : Int) < M.old.length := by omega
      have hcell := row_cell hrow a hal
      cases hc : M.old[a]'hal with
      | nil =>
        rw [hc] at hcell
        have hcell' : wr.cell? ⟨M.told, a, none⟩ = some (.pointer none) := hcell
        clear hcell hrow
        have HC := Lib.hid hc; clear hc
        go_wp2
        go_quiet (fail)
        go_wp2
        go_roundw
        case rel =>
          refine ⟨k + 1, a + 1, by go_num, by omega, by omega, ?_, ?_, ?_⟩
          · rw [← HP.out]
            conv => rhs; rw [show 10 - k = (10 - (k + 1)) + 1 by omega]; unfold passM
            rw [List.getElem?_eq_getElem hal, HC.out]
          · exact dict_at (HR.out.drewN _) (nd_at h.nd a M.n) (a + 1)
          · exact (hfr.thenDrewN _).thenSet _ _ (fun _ => rfl)
        case measure => simp [intOf]; omega
      | cons e r =>
        rw [hc] at hcell
        have hcell' : wr.cell? ⟨M.told, a, none⟩ = some (.pointer (some ⟨e.b, 0, none⟩)) := hcell
        clear hcell hrow
        have HC := Lib.hid hc; clear hc
        go_wp2
        go_quiet (fail)
        go_wp2
        go_meet
        case rel =>
          refine ⟨a, ?_, HR.out.drewN _, hfr.thenDrewN _⟩
          rw [← HP.out]
          obtain ⟨j, hj⟩ : ∃ j, 10 - k = j + 1 := ⟨9 - k, by omega⟩
          rw [hj]
          unfold passM
          rw [List.getElem?_eq_getElem hal, HC.out]
  case rest =>
    obtain ⟨a, hpa, hrep, hfr⟩ := hcut
    have hal' : a ≤ M.old.length := by rw [← hpa]; exact passM_le M.old 10 M.at_ (by omega)
    obtain ⟨f0, f1, f2, f3, f4, f5⟩ := blk_field hrep.head
    have HR := Lib.hid hrep
    rw [show ({ M with at_ := a } : DM).old = M.old from rfl, show ({ M with at_ := a } : DM).told = M.told from rfl, tv_of hol] at f1
    rw [show ({ M with at_ := a } : DM).young = M.young from rfl, show ({ M with at_ := a } : DM).tyoung = M.tyoung from rfl, tv_of hy] at f2
    simp only at f3
    have g3 : (0 : Int) ≤ a := by omega
    have hrow := (dict_row_old hrep hol).1
    clear hrep
    have hst := stepM_moving M hy
    rw [hpa] at hst
    have HS := Lib.hid hst; clear hst
    have HPA := Lib.hid hpa; clear hpa
    have hnda := nd_at h.nd a M.n
    have hdom : ∀ i, i = d → Bs (dictL d M) i := fun i hi => by rw [hi]; exact Bs.cons_iff.2 (.inl rfl)
    by_cases hal : a < M.old.length
    case neg =>
      have hae : a = M.old.length := by omega
      have g2 : decide (a < M.old.length) = false := by simpa using hal
      have g5 : ((a : Int) == (M.old.length : Int)) = true := beq_iff_eq.2 (by omega)
      have hmv : moveM M a = { M with at_ := a } := by unfold moveM; rw [List.getElem?_eq_none (by omega)]
      have HMV := Lib.hid hmv; clear hmv
      have HAE := Lib.hid hae; clear hae hrow
      go_wp2
      go_quiet (fail)
      go_wp2
      go_quiet (fail)
      go_wp2
      have hst : stepM M = { M with told := M.tyoung, old := M.young, young := [], at_ := 0 } := by
        rw [HS.out, HMV.out, endM_pos _ HAE.out]
      obtain ⟨e1, e2⟩ := dict_end (HR.out.drewN _) hnda
      rw [show ({ M with at_ := a } : DM).young = M.young from rfl, show ({ M with at_ := a } : DM).tyoung = M.tyoung from rfl, tv_of hy] at e1
      go_end0
      refine ⟨rfl, ?_, ?_⟩
      · refine dat_step h ?_ ?_
        · rw [hst]; exact e1
        · rw [hst]; exact e2
      · exact ((((hfr.mono (fun i hi _ => hdom i hi)).thenDrewN _).thenSet _ _ (fun _ => hdom _ rfl)).thenSet _ _ (fun _ => hdom _ rfl)).thenSet _ _ (fun _ => hdom _ rfl)
    case pos =>
      have g2 : decide (a < M.old.length) = true := by simpa using hal
      have g4 : (a : Int) < M.old.length := by omega
      have hcell := row_cell hrow a hal
      cases hc : M.old[a]'hal with
      | nil =>
        rw [hc] at hcell
        have hcell' : wc.cell? ⟨M.told, a, none⟩ = some (.pointer none) := hcell
        have g5 : ((a : Int) == (M.old.length : Int)) = false := beq_eq_false_iff_ne.2 (by omega)
        have hmv : moveM M a = { M with at_ := a } := by unfold moveM; rw [List.getElem?_eq_getElem hal, hc]
        have HMV := Lib.hid hmv; clear hmv
        have HC := Lib.hid hc; clear hc hcell hrow
        go_wp2
        go_quiet (fail)
        go_wp2
        go_quiet (fail)
        go_wp2
        have hst : stepM M = { M with at_ := a } := by
          rw [HS.out, HMV.out, endM_neg]
          show ¬ a = M.old.length
          omega
        go_end0
        refine ⟨rfl, dat_step h ?_ ?_, ((hfr.mono (fun i hi _ => hdom i hi)).thenDrewN _).thenDrewN _⟩
        · rw [hst]; exact (HR.out.drewN _).drewN _
        · rw [hst]; exact hnda
      | cons e r0 =>
        rw [hc] at hcell
        have hcell' : wc.cell? ⟨M.told, a, none⟩ = some (.pointer (some ⟨e.b, 0, none⟩)) := hcell
        have hmv : moveM M a = { M with old := M.old.set a [], young := (e :: r0).foldl (hangM M.seed) M.young, at_ := a + 1 } := by unfold moveM; rw [List.getElem?_eq_getElem hal, hc]
        have HMV := Lib.hid hmv; clear hmv
        have HC := Lib.hid hc; clear hc hcell hrow
        go_wp2
        go_quiet (fail)
        go_wp2
        go_quiet (fail)
        go_wp2
        obtain ⟨A0, hA0⟩ : ∃ A0 : Hl, A0 = (d, fieldsO 109 { M with at_ := a }) :: (M.told, rowO 112 M.old) :: chainsO 114 (M.old.set a []) := ⟨_, rfl⟩
        have HA0 := Lib.hid hA0; clear hA0
        obtain ⟨kd, hkd2, hkd⟩ := h.inv.syoung hy
        have hkd60 : kd < 60 := by
          refine Nat.lt_of_not_le (fun hge => ?_)
          have := Nat.pow_le_pow_right (show 0 < 2 by decide) hge
          have h2 := h.lyoung
          omega
        have HKD := Lib.hid hkd; clear hkd
        have hstart : Rep wc (A0 ++ (chainO 114 (e :: r0) ++ ((M.tyoung, rowO 112 M.young) :: chainsO 114 M.young))) ∧ Nd (A0 ++ (chainO 114 (e :: r0) ++ ((M.tyoung, rowO 112 M.young) :: chainsO 114 M.young))) ∧ (dictL d { M with at_ := a }).Perm (A0 ++ (chainO 114 (e :: r0) ++ ((M.tyoung, rowO 112 M.young) :: chainsO 114 M.young))) := by
          have hp := chainsO_perm (ET := 114) M.old a hal
          rw [HC.out] at hp
          have e1 : dictL d { M with at_ := a } = (d, fieldsO 109 { M with at_ := a }) :: ((M.told, rowO 112 M.old) :: chainsO 114 M.old ++ ((M.tyoung, rowO 112 M.young) :: chainsO 114 M.young)) := by
            show dictO _ _ _ _ _ = _
            unfold dictO
            rw [tabO_of hol, tabO_of hy]
          have hperm : (dictL d { M with at_ := a }).Perm (A0 ++ (chainO 114 (e :: r0) ++ ((M.tyoung, rowO 112 M.young) :: chainsO 114 M.young))) := by
            rw [e1, HA0.out]
            simp only [List.cons_append]
            refine List.Perm.cons _ (List.Perm.cons _ ?_)
            rw [← List.append_assoc]
            refine List.Perm.append_right _ (hp.trans List.perm_append_comm)
          exact ⟨HR.out.perm hperm, Nd.perm hnda hperm, hperm⟩
        have HST := Lib.hid hstart; clear hstart
        have hszr : ∀ x ∈ e :: r0, x.val.length = 1 ∧ x.key.size ≤ maxLen := fun x hx => h.sz x (List.mem_append.2 (.inl (List.mem_flatten.2 ⟨_, List.getElem_mem hal, by rw [HC.out]; exact hx⟩)))
        have HSZ := Lib.hid hszr; clear hszr
        have hdb : ∀ i, Bs (A0 ++ (chainO 114 (e :: r0) ++ ((M.tyoung, rowO 112 M.young) :: chainsO 114 M.young))) i → Bs (dictL d M) i := fun i hi => (Bs.perm HST.out.2.2).2 hi
        have HDB := Lib.hid hdb; clear hdb
        go_loopg [3, 4] (e :: r0).length (fun k s3 s4 wr => ∃ r Y, Hid (r.length = k) ∧ s3 = hp r ∧
          Hid (Rep wr (A0 ++ (chainO 114 r ++ ((M.tyoung, rowO 112 Y) :: chainsO 114 Y))) ∧ Nd (A0 ++ (chainO 114 r ++ ((M.tyoung, rowO 112 Y) :: chainsO 114 Y)))) ∧
          Hid (Y.length = M.young.length) ∧ Hid (r.foldl (hangM M.seed) Y = (e :: r0).foldl (hangM M.seed) M.young) ∧ Hid (∀ x ∈ r, x ∈ e :: r0) ∧ Fr (Bs (dictL d M)) w wr ∧
          Hid (∀ i, Bs (A0 ++ (chainO 114 r ++ ((M.tyoung, rowO 112 Y) :: chainsO 114 Y))) i → Bs (dictL d M) i))
        case atStart =>
          exact ⟨e :: r0, M.young, rfl, rfl, ⟨(HST.out.1.drewN _).drewN _, HST.out.2.1⟩, rfl, rfl, fun x hx => hx, ((hfr.mono (fun i hi _ => hdom i hi)).thenDrewN _).thenDrewN _, HDB⟩
        case round =>
          obtain ⟨r, Y, H1, hs3, H2, H3, H4, H5, hfr2, H6⟩ := hrel
          clear f0 f1 f2 f3 f4 f5 hcell' hfr
          cases r with
          | nil =>
            have hs3' : u3 = .pointer none := hs3
            subst hs3'
            clear hs3
            have R := H2.out.1
            have e0 : chainO 114 ([] : List E) = [] := rfl
            rw [e0, List.nil_append] at R
            have N2 := H2.out.2
            rw [e0, List.nil_append] at N2
            have hf := (R.sub (M := [(d, fieldsO 109 { M with at_ := a })]) (fun y hy => by rw [List.mem_singleton.1 hy, HA0.out]; simp)).head
            have hrw := (R.sub (M := [(M.told, rowO 112 M.old)]) (fun y hy => by rw [List.mem_singleton.1 hy, HA0.out]; simp)).head
            obtain ⟨f0, f1, f2, f3, f4, f5⟩ := blk_field hf
            rw [show ({ M with at_ := a } : DM).old = M.old from rfl, show ({ M with at_ := a } : DM).told = M.told from rfl, tv_of hol] at f1
            rw [show ({ M with at_ := a } : DM).young = M.young from rfl, show ({ M with at_ := a } : DM).tyoung = M.tyoung from rfl, tv_of hy] at f2
            simp only at f3
            have hca := row_cell hrw a hal
            rw [HC.out] at hca
            have hca' : wr.cell? ⟨M.told, a, none⟩ = some (.pointer (some ⟨e.b, 0, none⟩)) := hca
            have hfa : wr.frozen? ⟨M.told, a, none⟩ = false := free_of_blk hrw a
            have hdt : ¬ M.told = d := by
              rw [HA0.out, List.cons_append, List.cons_append] at N2
              have := (Nd.cons_iff.1 N2).1
              rw [Bs.cons_iff] at this
              exact fun e => this (.inl e.symm)
            have hdt' : ¬ d = M.told := fun e => hdt e.symm
            have HRR := Lib.hid R; clear R
            have HN2 := Lib.hid N2; clear N2
            clear hca hrw hf e0
            have hend : Hid (∀ W : World, W = wr.setCell ⟨M.told, a, none⟩ (.pointer none) → Rep W (dictL d { M with old := M.old.set a [], young := Y, at_ := a }) ∧ Nd (dictL d { M with old := M.old.set a [], young := Y, at_ := a })) := by
              rintro W rfl
              have RR := HRR.out
              have NN := HN2.out
              rw [HA0.out, List.cons_append, List.cons_append] at RR NN
              exact dict_moved hol hy H3.out RR NN
            have hsame : Hid (stepM M = endM { M with old := M.old.set a [], young := Y, at_ := a + 1 }) := by
              show _ = _
              rw [HS.out, HMV.out]
              have : Y = (e :: r0).foldl (hangM M.seed) M.young := H4.out
              rw [← this]
            have hbt : Bs (dictL d M) M.told := by
              unfold dictL dictO
              rw [Bs.cons_iff, Bs.append_iff, tabO_of hol, Bs.cons_iff]
              exact .inr (.inl (.inl rfl))
            have HBT := Lib.hid hbt; clear hbt
            have hsl : Hid ((M.old.set a []).length = M.old.length) := by show _ = _; simp
            by_cases hen : a + 1 = M.old.length
            · have g5 : ((a : Int) + 1 == (M.old.length : Int)) = true := beq_iff_eq.2 (by omega)
              have HEN := Lib.hid hen; clear hen
              go_wp2
              go_region
              go_wp2
              go_quiet (fail)
              go_wp2
              obtain ⟨e1, e2⟩ := hend.out _ rfl
              have e3 := dict_at e1 e2 (a + 1)
              obtain ⟨e4, e5⟩ := dict_end (e3.drewN (1 + nq)) (nd_at (M := { M with old := M.old.set a [], young := Y, at_ := a }) e2 (a + 1) M.n)
              have hst := hsame.out
              rw [endM_pos _ (by show a + 1 = (M.old.set a []).length; rw [hsl.out]; exact HEN.out)] at hst
              have etv : tv M.tyoung Y = .slice (some ⟨M.tyoung, 0, none⟩) M.young.length M.young.length := by rw [tv_len M.tyoung Y M.young H3.out, tv_of hy]
              rw [show ({ M with old := M.old.set a [], young := Y, at_ := a + 1 } : DM).young = Y from rfl, show ({ M with old := M.old.set a [], young := Y, at_ := a + 1 } : DM).tyoung = M.tyoung from rfl, etv] at e4
              go_end0
              refine ⟨rfl, dat_step h ?_ ?_, ?_⟩
              · rw [hst]; exact e4
              · rw [hst]; exact e5
              · exact (((((hfr2.thenSet _ _ (fun _ => HBT.out)).thenSet _ _ (fun _ => hdom _ rfl)).thenDrewN _).thenSet _ _ (fun _ => hdom _ rfl)).thenSet _ _ (fun _ => hdom _ rfl)).thenSet _ _ (fun _ => hdom _ rfl)
            · have g5 : ((a : Int) + 1 == (M.old.length : Int)) = false := beq_eq_false_iff_ne.2 (by omega)
              have HEN := Lib.hid hen; clear hen
              go_wp2
              go_region
              go_wp2
              go_quiet (fail)
              go_wp2
              obtain ⟨e1, e2⟩ := hend.out _ rfl
              have e3 := dict_at e1 e2 (a + 1)
              have hst := hsame.out
              rw [endM_neg _ (by show ¬ a + 1 = (M.old.set a []).length; rw [hsl.out]; exact HEN.out)] at hst
              go_end0
              refine ⟨rfl, dat_step h ?_ ?_, ?_⟩
              · rw [hst]; exact e3.drew.drewN _
              · rw [hst]; exact e2
              · exact (((hfr2.thenSet _ _ (fun _ => HBT.out)).thenSet _ _ (fun _ => hdom _ rfl)).thenDrew).thenDrewN _
          | cons x r =>
            have hs3' : u3 = .pointer (some ⟨x.b, 0, none⟩) := hs3
            subst hs3'
            clear hs3
            have R := H2.out.1
            have hf := (R.sub (M := [(d, fieldsO 109 { M with at_ := a })]) (fun y hy => by rw [List.mem_singleton.1 hy, HA0.out]; simp)).head
            obtain ⟨f0, f1, f2, f3, f4, f5⟩ := blk_field hf
            rw [show ({ M with at_ := a } : DM).young = M.young from rfl, show ({ M with at_ := a } : DM).tyoung = M.tyoung from rfl, tv_of hy] at f2
            simp only at f0
            have hxe : wr.heap[x.b]? = some (entryObj 114 x (hp r)) := R (x.b, _) (List.mem_append.2 (.inr (List.mem_append.2 (.inl (List.mem_cons_self ..)))))
            have hrowY : wr.heap[M.tyoung]? = some (rowO 112 Y) := R (M.tyoung, _) (List.mem_append.2 (.inr (List.mem_append.2 (.inr (List.mem_cons_self ..)))))
            have hlt := slotOf_lt M.seed Y.length x.key (by rw [H3.out]; exact List.length_pos_iff.2 hy)
            obtain ⟨c, hc⟩ : ∃ c, Y[slotOf M.seed Y.length x.key]? = some c := ⟨_, List.getElem?_eq_getElem hlt⟩
            have hme := hangM_eq M.seed Y x _ hc
            obtain ⟨si, hsi⟩ : ∃ si, slotOf M.seed Y.length x.key = si := ⟨_, rfl⟩
            rw [hsi] at hc hlt hme
            have hz := HSZ.out x (H5.out x (by simp))
            have hperm : (A0 ++ (chainO 114 (x :: r) ++ ((M.tyoung, rowO 112 Y) :: chainsO 114 Y))).Perm ((A0 ++ chainO 114 r) ++ ((x.b, entryObj 114 x (hp r)) :: (M.tyoung, rowO 112 Y) :: chainsO 114 Y)) := by
              rw [List.append_assoc]
              refine List.Perm.append_left _ ?_
              exact (List.perm_middle (a := (x.b, entryObj 114 x (hp r))) (l₁ := chainO 114 r)).symm
            obtain ⟨hr1, hr2, hr3⟩ := hang_rep (R.perm hperm) (H2.out.2.perm hperm) hc
            rw [← hme, List.append_assoc] at hr1 hr2
            rw [← hme, List.append_assoc A0 _ ((M.tyoung, _) :: _)] at hr3
            have hneb : x.b ≠ M.tyoung := by
              have := (H2.out.2.perm hperm).perm (perm3 _ _ _ _)
              rw [Nd.cons_iff, Bs.cons_iff] at this
              exact fun e => this.1 (.inl e)
            have hh := hang_any wr d M.tyoung Y M.seed x (hp r) kd (by rw [H3.out]; exact HKD.out) hkd60 hz.2 hz.1 f0 hrowY hxe hneb si hsi c hc
            rw [H3.out] at hh
            have HH := Lib.hid hh; clear hh
            rw [hz.1] at hr1
            have HR1 := Lib.hid hr1; clear hr1
            have HR2 := Lib.hid hr2; clear hr2
            have HR3 := Lib.hid hr3; clear hr3
            have hnx : wr.cell? ⟨x.b, 2, none⟩ = some (hp r) := by
              have h2 := cell_of_blk hxe 2
              match hv : x.val, hz.1 with
              | [x0], _ => rw [h2, hv]; rfl
            obtain ⟨pr, hpr⟩ : ∃ pr, hp r = .pointer pr := by cases r <;> exact ⟨_, rfl⟩
            rw [hpr] at hnx
            have HPR := Lib.hid hpr; clear hpr
            have HXE := Lib.hid hxe; clear hxe
            have HRY := Lib.hid hrowY; clear hrowY
            have HF := Lib.hid hf; clear hf
            have HHP := Lib.hid hperm; clear hperm
            clear hc hlt R f1 f3 f4 hme hsi
            go_wp2_with fail
            refine HH.out.mono ?_
            rintro e' w2 ⟨rfl, rfl⟩
            go_wp2
            go_roundg r.length
            case measure => have := H1.out; simp at this; omega
            case rel =>
              refine ⟨r, hangM M.seed Y x, rfl, HPR.out.symm, ⟨HR1.out, HR2.out⟩, ?_, H4, fun y hy => H5.out y (by simp [hy]), ?_, fun i hi => H6.out i ((Bs.perm HHP.out).2 ((HR3.out i).1 hi))⟩
              · show _ = _
                rw [hangM_length]; exact H3.out
              · refine (hfr2.thenSet _ _ (fun _ => H6.out _ ?_)).thenSet _ _ (fun _ => H6.out _ ?_)
                · rw [Bs.perm HHP.out, Bs.append_iff, Bs.cons_iff]; exact .inr (.inl rfl)
                · rw [Bs.perm HHP.out, Bs.append_iff, Bs.cons_iff, Bs.cons_iff]; exact .inr (.inr (.inl rfl))
end Go.Proofs.Ytkecipdonamjaaa.Di

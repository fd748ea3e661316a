/- The walk of FlockSets. No condition. -/
import Derived.Test.YtgomilodeaafdaaCh
import Derived.Test.YtgomilodeaafdaaBk
import Derived.Lib.Builder
namespace Go.Proofs.Ytgomilodeaafdaa
open Go.ChangeShapes Go.WideShapes Go.ChangeAt Go.RowKit Du
theorem info_flo2 : (Try.prog.info? 67).map (fun i => (i.zero, i.size, i.bytes)) = some (some (.pointer none), 1, 8) := by kernel_rfl
theorem info_rf2 : (Try.prog.info? 70).map (fun i => (i.zero, i.size, i.bytes)) = some (some (.pointer none), 1, 8) := by kernel_rfl
theorem neq_flo (r : Nat) (w : World) : (binOp .neq 67 (.pointer (some ⟨r, 0, none⟩)) (.pointer (some ⟨r, 0, none⟩))).run Try.prog w = .ok (.bool false) w := by
  have h : (Try.prog.info? 152).isSome = true := by kernel_rfl
  obtain ⟨j, hj⟩ := Option.isSome_iff_exists.1 h
  exact Lib.run_neq_ptr_same w _ Try.underlying67 hj
set_option maxRecDepth 100000 in
set_option maxHeartbeats 8000000 in
theorem flockSets_walk (w : World) (v0 : Value) (l : List LsB) (hr0 : RdC w 1 v0 l.length (l.map (·.1))) (ho0 : ∀ x ∈ l, LsOk 1048576 w x) (hn0 : l.length ≤ 1048576) (hs0 : (l.map fun x => x.2.length).sum ≤ 1048576)
    (v1 : Value) (nb : List Bool) (hr1 : RdC w 1 v1 nb.length (nb.map .bool)) :
    Calls Try.prog 8 #[v0, v1] w fun e w' => e = .returned (.bool true) ∧ Below w.heap.size w w' := by
  have HR0 := Lib.hid hr0
  have HO0 := Lib.hid ho0
  have HS0 := Lib.hid hs0
  have HR1 := Lib.hid hr1
  have hnm := hr1.len
  unfold maxLen at hnm
  obtain ⟨-, a0, c0, rfl, -⟩ := hr0
  obtain ⟨-, a1, c1, rfl, -⟩ := hr1
  obtain ⟨j0, hj, hy0, hy1, hy2⟩ := info_parts info_flo2
  have HJ := Lib.hid hj
  have HY0 := Lib.hid hy0
  have HY1 := Lib.hid hy1
  have HY2 := Lib.hid hy2
  obtain ⟨k0, hk, hx0, hx1, hx2⟩ := info_parts info_rf2
  have HK := Lib.hid hk
  have HX0 := Lib.hid hx0
  have HX1 := Lib.hid hx1
  have HX2 := Lib.hid hx2
  clear hj hy0 hy1 hy2 ho0 hs0 hk hx0 hx1 hx2
  go_enter Try.func8, Try.ntmps8
  go_wp2_with fail
  go_loopw [5, 6, 21] (fun vf vm i wr => ∃ (ps : List (Option Pr10)), i = .int .i64 ps.length ∧ ps.length ≤ l.length ∧ Hid (Pw10 w wr vf vm ps) ∧ Hid ((ps.map oN).sum ≤ ((l.take ps.length).map fun x => x.2.length).sum)) (fun _ _ i _ => l.length - (intOf i).toNat)
  case atStart => exact ⟨[], rfl, by simp, Pw10.start w, (by show _ ≤ _; simp)⟩
  case round =>
    obtain ⟨ps, rfl, hk, HPW, HSM⟩ := hrel
    obtain ⟨wo, rfl⟩ : ∃ x, x = wr := ⟨_, rfl⟩
    have hf := HPW.out.rf
    obtain ⟨fa, fc, rfl⟩ := owns_slice hf
    have hm := HPW.out.rm
    obtain ⟨ma, mc, rfl⟩ := owns_slice hm
    clear hf hm
    by_cases hlt : ps.length < l.length
    · obtain ⟨g, off, e9, hcell⟩ := (HR0.out.fr HPW.out.fr (fun _ _ h => h)).at (by rw [List.length_map]; omega)
      cases e9
      obtain ⟨x, hx⟩ : ∃ x, l[ps.length] = x := ⟨_, rfl⟩
      have hcp := hcell ps.length x.1 (by rw [List.getElem?_map, List.getElem?_eq_getElem hlt, hx]; rfl)
      have hox := HO0.out x (hx ▸ List.getElem_mem hlt)
      have HTK : Hid (((l.take (ps.length + 1)).map fun x => x.2.length).sum = ((l.take ps.length).map fun x => x.2.length).sum + x.2.length) := by
        show _ = _
        rw [List.take_succ_eq_append_getElem hlt, hx, List.map_append, List.sum_append]
        simp
      obtain ⟨xv, S⟩ := x
      obtain ⟨hrx, hnx, hzx⟩ := hox
      dsimp only at hcp hrx hnx hzx HTK
      obtain ⟨-, xa, xc, rfl, -⟩ := id hrx
      have HRX := Lib.hid (hrx.fr HPW.out.fr (fun _ _ h => h))
      have HZX := Lib.hid hzx
      have b0 : (0 : Int) ≤ (ps.length : Int) := by omega
      have b1 : (ps.length : Int) < (l.length : Int) := by omega
      clear hcell hx hrx hzx
      go_upto_region 6 with (fail)
      go_cut [35] from 26 to 35 (fun t wc => wc = wo ∧ ∃ b : Bool, t = .bool b)
      case first =>
        by_cases hkn : ps.length < nb.length
        · obtain ⟨g2, off2, e9, hcell2⟩ := (HR1.out.fr HPW.out.fr (fun _ _ h => h)).at (by rw [List.length_map]; omega)
          cases e9
          obtain ⟨b, hb⟩ : ∃ b, nb[ps.length] = b := ⟨_, rfl⟩
          have hcb := hcell2 ps.length (.bool b) (by rw [List.getElem?_map, List.getElem?_eq_getElem hkn, hb]; rfl)
          have d1 : (ps.length : Int) < (nb.length : Int) := by omega
          clear hcell2 hb
          go_wp2_with fail
          go_meet
          case rel => exact ⟨rfl, b, rfl⟩
        · have d1 : ¬ (ps.length : Int) < (nb.length : Int) := by omega
          go_wp2_with fail
          go_meet
          case rel => exact ⟨rfl, false, rfl⟩
      case rest =>
      obtain ⟨rfl, b, rfl⟩ := hcut
      obtain ⟨wq, rfl⟩ : ∃ x, x = wc := ⟨_, rfl⟩
      cases b with
      | true =>
        have HQ0 : Hid (Fr (fun _ => False) wq wq) := Fr.refl _ _
        have HPQ : Hid (Pw10 w (wq.alloc (.cells #[.pointer none] 67)) (.slice fa ps.length fc) (.slice ma ps.length mc) ps) := HPW.out.quiet (Fr.alloc _ _ _)
        have HOK : Hid (∀ p : Pr10, (none : Option Pr10) = some p → Bo wq wq p.F p.r p.m p.A) := fun p h => by cases h
        go_wp2_with (first | (at_builtin; refine wpl_append2 rfl (.tmp 36) (.tmp 37) 83 rfl w.heap.size 67 j0 (.pointer none) 1 8 Try.underlying83 HJ.out HY0.out HY1.out HY2.out rfl (by decide) (.slice fa ps.length fc) ps.length _ rfl HPQ.out.rf _ 1 [.pointer none] rfl (RdC.of_owns (World.ownsRow_lit (base := wq.heap.size) (e := 67) (size := 1) wq #[.pointer none] 1 (Nat.le_refl _) (by decide) rfl)) (by simp [Value.oneCell']) (by unfold maxLen; omega) (by omega) HPQ.out.fr.size ?_; intro v5 w5 hown hgrow hap; have HO5 := Lib.hid hown; have HG5 := Lib.hid hgrow; have HA5 := Lib.hid hap; have HS5 : Hid (w.heap.size ≤ w5.heap.size) := Nat.le_trans HPQ.out.fr.size (Fr.of_grownBy hgrow).size; clear hown hgrow hap) | (at_builtin; refine wpl_append2 rfl (.tmp 39) (.tmp 40) 84 rfl w.heap.size 70 k0 (.pointer none) 1 8 Try.underlying84 HK.out HX0.out HX1.out HX2.out rfl (by decide) (.slice ma ps.length mc) ps.length _ rfl (HPQ.out.rmAt HG5.out (Fr.alloc _ _ _)) _ 1 [.pointer none] rfl (RdC.of_owns (World.ownsRow_lit (base := w5.heap.size) (e := 70) (size := 1) w5 #[.pointer none] 1 (Nat.le_refl _) (by decide) rfl)) (by simp [Value.oneCell']) (by unfold maxLen; omega) (by omega) (by rw [World.size_alloc]; have := HS5.out; omega) ?_; intro v6 w6 hown hgrow hap; have HP6 := Lib.hid (HPW.out.app (o := none) HQ0.out (Fr.alloc _ _ _) HOK.out HO5.out HG5.out HA5.out (Fr.alloc _ _ _) hown hgrow hap); clear hown hgrow hap))
        go_roundw
        case rel => exact ⟨ps ++ [none], by rw [List.length_append]; go_num, by rw [List.length_append]; show _ + 1 ≤ _; omega, HP6, by
          show _ ≤ _
          rw [List.map_append, List.sum_append, List.length_append]
          show _ + _ ≤ ((l.take (ps.length + 1)).map _).sum
          rw [HTK.out]
          have := HSM.out
          simp only [List.map_cons, List.map_nil, List.sum_cons, List.sum_nil, oN]
          omega⟩
        case measure => simp [intOf]; omega
      | false =>
        obtain ⟨s, hs⟩ : ∃ s, UInt64.ofNat ps.length = s := ⟨_, rfl⟩
        have hws : wd s = (ps.length : Int) := by rw [← hs]; exact wd_nat _ (by omega)
        have e1 : IntKind.u64.wrap (ps.length : Int) = (ps.length : Int) := by rw [IntKind.wrap_u64]; omega
        have hfn := floNew_any wq s
        have hmn := fun W => rfNew_any s W
        rw [hws] at hfn
        have HMN : Hid (∀ W, Calls Try.prog 35 #[.int .u64 (ps.length : Int)] W fun e w' => ∃ mr p Fd X, e = .returned (.pointer (some ⟨mr, 0, none⟩)) ∧ RefFx w' W.heap.size mr (fun k => W.heap.size ≤ k ∧ k < w'.heap.size) ⟨s, [], [], 0⟩ [] [] p Fd X (.slice none 0 0) ∧ Fr (fun _ => False) W w') := fun W => by
          have h1 := hmn W
          rw [hws] at h1
          exact h1
        have HFN := Lib.hid hfn
        clear hs hws hfn hmn hcp
        go_wp2_with fail
        refine HFN.out.mono ?_
        rintro e x1 ⟨r, d, rfl, hf, hb1⟩
        have HF1 : Hid (Fr (fun _ => False) wq x1) := fr_bel0 hb1
        have HFF := Lib.hid hf
        clear hf hb1 HFN
        go_wp2_with fail
        refine (HMN.out x1).mono ?_
        rintro e x2 ⟨m, p, Fd, X, rfl, hm, hf2⟩
        have HB0 := Lib.hid (bo_new HFF.out HF1.out hm hf2)
        have HF2 := Lib.hid (HF1.out.trans hf2 (fun _ h _ => h))
        clear hm hf2 HMN HFF
        go_wp2_with fail
        go_loopw [52] (fun j wr => ∃ (jj : Nat) (F : Nat → Prop) (A : List Me), j = .int .i64 jj ∧ jj ≤ S.length ∧ A.length ≤ jj ∧ Hid (Bo wq wr F r m A) ∧ Hid (Fr (fun _ => False) wq wr)) (fun j _ => S.length - (intOf j).toNat)
        case atStart => exact ⟨0, _, [], rfl, by omega, by simp, HB0, HF2⟩
        case round =>
          obtain ⟨jj, F, A, rfl, hjj, hA, HB, HF⟩ := hrel
          obtain ⟨wz, rfl⟩ : ∃ x, x = wr := ⟨_, rfl⟩
          clear HB0 HF2 HF1
          by_cases hlj : jj < S.length
          · obtain ⟨g2, off2, e9, hc⟩ := rd_text (HRX.out.fr HF.out (fun _ _ h => h)) jj hlj
            cases e9
            have hz := HZX.out S[jj] (List.getElem_mem hlj)
            obtain ⟨y, hy⟩ : ∃ y, S[jj] = y := ⟨_, rfl⟩
            rw [hy] at hc hz
            obtain ⟨bb, cc, hadd⟩ := bo_addF HB.out y hz
            have HAD := Lib.hid hadd
            have b2 : (0 : Int) ≤ (jj : Int) := by omega
            have b3 : (jj : Int) < (S.length : Int) := by omega
            clear hy hz hadd
            go_wp2_with fail
            refine HAD.out.mono ?_
            rintro e x3 ⟨rfl, hf3, hn⟩
            have HN3 := Lib.hid (hn x3 (Fr.refl _ _))
            clear hn hf3 hc
            go_wp2_with fail
            refine HN3.out.mono ?_
            rintro e x4 ⟨rfl, A4, hA4, hb4, hf4⟩
            have HB4 := Lib.hid hb4
            have HF4 : Hid (Fr (fun _ => False) wq x4) := HF.out.wide hf4 (fun i hi => .inr (HB.out.lts.1 i hi).1)
            clear hb4 hf4
            go_wp2_with fail
            go_roundw
            case rel => exact ⟨jj + 1, _, A4, by go_num, by omega, by omega, HB4, HF4⟩
            case measure => simp [intOf]; omega
          · obtain rfl : jj = S.length := by omega
            obtain ⟨wa, hwa⟩ : ∃ x, x = wq := ⟨_, rfl⟩
            obtain ⟨wb, hwb⟩ : ∃ x, x = wz := ⟨_, rfl⟩
            have HPW2 : Hid (Pw10 w wa (.slice fa ps.length fc) (.slice ma ps.length mc) ps) := by rw [hwa]; exact HPW.out
            have HQ0 : Hid (Fr (fun _ => False) wa wb) := by rw [hwa, hwb]; exact HF.out
            have HOK : Hid (∀ p : Pr10, some (Pr10.mk r m F A) = some p → Bo wa wb p.F p.r p.m p.A) := fun p h => by cases h; rw [hwa, hwb]; exact HB.out
            rw [← hwb]
            clear hwa hwb HPW HF HB
            have HPW := HPW2
            clear HPW2
            obtain ⟨wq, hwq⟩ : ∃ x, x = wb := ⟨_, rfl⟩
            subst hwq
            have HPQ : Hid (Pw10 w (wq.alloc (.cells #[.pointer (some ⟨r, 0, none⟩)] 67)) (.slice fa ps.length fc) (.slice ma ps.length mc) ps) := (HPW.out.quiet HQ0.out).quiet (Fr.alloc _ _ _)
            go_wp2_with (first | (at_builtin; refine wpl_append2 rfl (.tmp 63) (.tmp 65) 83 rfl w.heap.size 67 j0 (.pointer none) 1 8 Try.underlying83 HJ.out HY0.out HY1.out HY2.out rfl (by decide) (.slice fa ps.length fc) ps.length _ rfl HPQ.out.rf _ 1 [.pointer (some ⟨r, 0, none⟩)] rfl (RdC.of_owns (World.ownsRow_lit (base := wq.heap.size) (e := 67) (size := 1) wq #[.pointer (some ⟨r, 0, none⟩)] 1 (Nat.le_refl _) (by decide) rfl)) (by simp [Value.oneCell']) (by unfold maxLen; omega) (by omega) HPQ.out.fr.size ?_; intro v5 w5 hown hgrow hap; have HO5 := Lib.hid hown; have HG5 := Lib.hid hgrow; have HA5 := Lib.hid hap; have HS5 : Hid (w.heap.size ≤ w5.heap.size) := Nat.le_trans HPQ.out.fr.size (Fr.of_grownBy hgrow).size; clear hown hgrow hap) | (at_builtin; refine wpl_append2 rfl (.tmp 67) (.tmp 69) 84 rfl w.heap.size 70 k0 (.pointer none) 1 8 Try.underlying84 HK.out HX0.out HX1.out HX2.out rfl (by decide) (.slice ma ps.length mc) ps.length _ rfl (HPQ.out.rmAt HG5.out (Fr.alloc _ _ _)) _ 1 [.pointer (some ⟨m, 0, none⟩)] rfl (RdC.of_owns (World.ownsRow_lit (base := w5.heap.size) (e := 70) (size := 1) w5 #[.pointer (some ⟨m, 0, none⟩)] 1 (Nat.le_refl _) (by decide) rfl)) (by simp [Value.oneCell']) (by unfold maxLen; omega) (by omega) (by rw [World.size_alloc]; have := HS5.out; omega) ?_; intro v6 w6 hown hgrow hap; have HP6 := Lib.hid (HPW.out.app (o := some (Pr10.mk r m F A)) HQ0.out (Fr.alloc _ _ _) HOK.out HO5.out HG5.out HA5.out (Fr.alloc _ _ _) hown hgrow hap); clear hown hgrow hap))
            go_roundw
            case rel => exact ⟨ps ++ [some (Pr10.mk r m F A)], by rw [List.length_append]; go_num, by rw [List.length_append]; show _ + 1 ≤ _; omega, HP6, by
              show _ ≤ _
              rw [List.map_append, List.sum_append, List.length_append]
              show _ + _ ≤ ((l.take (ps.length + 1)).map _).sum
              rw [HTK.out]
              have := HSM.out
              simp only [List.map_cons, List.map_nil, List.sum_cons, List.sum_nil, oN]
              omega⟩
            case measure => simp [intOf]; omega
    · have hkl : ps.length = l.length := by omega
      have hsum : (ps.map oN).sum ≤ 1048576 := by
        have h1 := HSM.out
        rw [hkl, List.take_length] at h1
        exact Nat.le_trans h1 HS0.out
      have HFLN : Hid ((ps.map oL).flatten.length ≤ 1048576) := by show _ ≤ _; rw [oL_len]; exact hsum
      have hn : ps.length ≤ 1048576 := by omega
      have hnl : ¬ (ps.length : Int) < (l.length : Int) := by omega
      have he0 : (wo.alloc (.cells #[] 67)).ownsRow w.heap.size 67 1 (.slice (some ⟨wo.heap.size, 0, none⟩) 0 0) 0 [] := World.ownsRow_lit (e := 67) wo #[] 0 HPW.out.fr.size (by decide) rfl
      have HE0 := Lib.hid he0
      have HPQ : Hid (Pw10 w (wo.alloc (.cells #[] 67)) (.slice fa ps.length fc) (.slice ma ps.length mc) ps) := HPW.out.quiet (Fr.alloc _ _ _)
      have HONE : Hid (∀ u ∈ ps.map oF, u.oneCell' = true) := fun u hu => by
        obtain ⟨o, -, rfl⟩ := List.mem_map.1 hu
        cases o <;> rfl
      clear hsum he0 hkl HSM
      go_wp2_with (at_builtin; refine wpl_append2 rfl (.tmp 72) (.tmp 73) 83 rfl w.heap.size 67 j0 (.pointer none) 1 8 Try.underlying83 HJ.out HY0.out HY1.out HY2.out rfl (by decide) (.slice (some ⟨wo.heap.size, 0, none⟩) 0 0) 0 [] rfl HE0.out (.slice fa ps.length fc) ps.length _ rfl (RdC.of_owns HPQ.out.rf) HONE.out (by unfold maxLen; omega) (by omega) HPQ.out.fr.size ?_; intro v13 wG hown hgrow hap; rw [Nat.zero_add, List.nil_append] at hown; obtain ⟨ga, gc, rfl⟩ := ow_sliceN hown; have HRG : Hid (RdC wG 1 (.slice ga ps.length gc) ps.length (ps.map oF)) := RdC.of_owns hown; have HFG : Hid (Fr (fun _ => False) wo wG) := (Fr.alloc (fun _ => False) wo _).wide (Fr.of_grownBy hgrow) (fun i hi => .inr (by have e : wo.heap.size = i := Option.some.inj hi; omega)); clear hown hgrow hap)
      have HPG := Lib.hid (HPW.out.quiet HFG.out)
      have HROW : Hid (∀ W, Fr (fun _ => False) wG W → FlRow W (.slice ga ps.length gc) (ps.map oF) (ps.map oL) ∧ RfRow W (.slice ma ps.length mc) (ps.map oM) (ps.map oL)) := fun W hf => ⟨(HPG.out.rows HRG.out).1.quiet hf, (HPG.out.rows HRG.out).2.quiet hf⟩
      obtain ⟨Ls, hLs⟩ : ∃ Ls, ps.map oL = Ls := ⟨_, rfl⟩
      rw [hLs] at HROW HFLN
      clear hLs HE0 HPQ HONE HPW HFG
      have HU : Hid (∀ W, Fr (fun _ => False) wG W → Calls Try.prog 43 #[.slice ga ps.length gc] W (UniPost W Ls.flatten)) := fun W hf => union_any W _ _ _ (HROW.out W hf).1 (by have := HFLN.out; omega)
      have HRU : Hid (∀ W, Fr (fun _ => False) wG W → Calls Try.prog 47 #[.slice ma ps.length mc] W (UniPost W Ls.flatten)) := fun W hf => refUnion_any W _ _ _ (HROW.out W hf).2 (by have := HFLN.out; omega)
      have HN : Hid (∀ W, Fr (fun _ => False) wG W → Calls Try.prog 44 #[.slice ga ps.length gc] W (ChPost W (interL Ls))) := fun W hf => inter_any W _ _ _ (HROW.out W hf).1 (by have := HFLN.out; omega)
      have HRN : Hid (∀ W, Fr (fun _ => False) wG W → Calls Try.prog 48 #[.slice ma ps.length mc] W (ChPost W (interL Ls))) := fun W hf => refInter_any W _ _ _ (HROW.out W hf).2
      have HD : Hid (∀ W, Fr (fun _ => False) wG W → Calls Try.prog 45 #[.slice ga ps.length gc] W (ChPost W (diffL Ls))) := fun W hf => diff_any W _ _ _ (HROW.out W hf).1 (by have := HFLN.out; omega)
      have HRD : Hid (∀ W, Fr (fun _ => False) wG W → Calls Try.prog 49 #[.slice ma ps.length mc] W (ChPost W (diffL Ls))) := fun W hf => refDiff_any W _ _ _ (HROW.out W hf).2
      have HLEN : Hid ((interL Ls).length ≤ 1048576 ∧ (diffL Ls).length ≤ 1048576) := by
        have h0 : (Ls.headD []).length ≤ Ls.flatten.length := by
          cases Ls with
          | nil => simp
          | cons a r => simp [List.flatten_cons]
        have h1 := HFLN.out
        exact ⟨Nat.le_trans (List.length_filter_le _ _) (by omega), Nat.le_trans (List.length_filter_le _ _) (by omega)⟩
      obtain ⟨N, hN⟩ : ∃ N, interL Ls = N := ⟨_, rfl⟩
      obtain ⟨D, hD⟩ : ∃ D, diffL Ls = D := ⟨_, rfl⟩
      rw [hN] at HN HRN HLEN
      rw [hD] at HD HRD HLEN
      clear hN hD
      refine (HU.out wG (Fr.refl _ _)).mono ?_
      rintro e w1 ⟨va, U, rfl, hU, hUl, hru, hf1⟩
      obtain ⟨ua, uc, rfl⟩ := ow_sliceN hru
      have HUR := Lib.hid hU
      have hUb : U.length ≤ 1048576 := Nat.le_trans hUl HFLN.out
      have HA1 : Hid (Nw wG.heap.size w1 (.slice ua U.length uc) U) := ⟨hru⟩
      have HAL : Hid (∀ k, (Value.slice ua U.length uc).ownBlock = some k → wG.heap.size ≤ k ∧ k < w1.heap.size) := fun k hk => ⟨(own_blk hru hk).1, (own_blk hru hk).2.1⟩
      have HF1 := Lib.hid hf1
      clear hU hUl hru hf1
      go_wp2_with fail
      refine (HN.out w1 HF1.out).mono ?_
      rintro e w2 ⟨vb, rfl, hrb, hf2⟩
      obtain ⟨na, nc, rfl⟩ := ow_sliceN hrb
      have HB2 : Hid (Nw w1.heap.size w2 (.slice na N.length nc) N) := ⟨hrb⟩
      have HBL : Hid (∀ k, (Value.slice na N.length nc).ownBlock = some k → w1.heap.size ≤ k ∧ k < w2.heap.size) := fun k hk => ⟨(own_blk hrb hk).1, (own_blk hrb hk).2.1⟩
      have HF2 := Lib.hid (HF1.out.trans hf2 (fun _ h _ => h))
      have HQ2 := Lib.hid hf2
      clear hrb hf2
      go_wp2_with fail
      refine (HD.out w2 HF2.out).mono ?_
      rintro e w3 ⟨vd, rfl, hrd, hf3⟩
      obtain ⟨da, dc, rfl⟩ := ow_sliceN hrd
      have HC3 : Hid (Nw w2.heap.size w3 (.slice da D.length dc) D) := ⟨hrd⟩
      have HCL : Hid (∀ k, (Value.slice da D.length dc).ownBlock = some k → w2.heap.size ≤ k ∧ k < w3.heap.size) := fun k hk => ⟨(own_blk hrd hk).1, (own_blk hrd hk).2.1⟩
      have HF3 := Lib.hid (HF2.out.trans hf3 (fun _ h _ => h))
      have HQ3 := Lib.hid hf3
      clear hrd hf3
      go_wp2_with fail
      refine (HU.out w3 HF3.out).mono ?_
      rintro e w4 ⟨ve, U2, rfl, hU2, -, hre, hf4⟩
      obtain rfl : U2 = U := hU2.one HUR.out (fun _ => Iff.rfl)
      obtain ⟨ea, ec, rfl⟩ := ow_sliceN hre
      have HE4 : Hid (Nw w3.heap.size w4 (.slice ea U2.length ec) U2) := ⟨hre⟩
      have HF4 := Lib.hid (HF3.out.trans hf4 (fun _ h _ => h))
      have HS34 : Hid (w3.heap.size ≤ w4.heap.size) := hf4.size
      have HA4 := Lib.hid (((HA1.out.quiet HQ2.out).quiet HQ3.out).quiet hf4)
      have HB4 := Lib.hid ((HB2.out.quiet HQ3.out).quiet hf4)
      have HC4 := Lib.hid (HC3.out.quiet hf4)
      clear hU2 hre hf4 HA1 HB2 HC3
      go_wp2_with fail
      refine (HRU.out w4 HF4.out).mono ?_
      rintro e w5 ⟨v5, U5, rfl, hU5, -, hr5, hf5⟩
      obtain rfl : U5 = U2 := hU5.one HUR.out (fun _ => Iff.rfl)
      obtain ⟨qa, qc, rfl⟩ := ow_sliceN hr5
      have HF5 := Lib.hid (HF4.out.trans hf5 (fun _ h _ => h))
      have HQ5 := Lib.hid hf5
      have HS5 := Lib.hid (same10_any w5 _ _ U5 U5 (HA4.out.quiet hf5).rd (RdC.of_owns hr5))
      rw [decide_eq_true rfl] at HS5
      clear hU5 hr5 hf5
      go_wp2_with fail
      refine HS5.out.mono ?_
      rintro e w' ⟨rfl, m5, hm5⟩
      obtain ⟨x5, rfl⟩ : ∃ x, x = w' := ⟨_, rfl⟩
      have HF5b : Hid (Fr (fun _ => False) wG x5) := by rw [hm5]; exact HF5.out.thenDrewN _
      have HQ5b : Hid (Fr (fun _ => False) w4 x5) := by rw [hm5]; exact HQ5.out.thenDrewN _
      clear hm5 HS5
      go_wp2_with fail
      refine (HRN.out x5 HF5b.out).mono ?_
      rintro e w6 ⟨v6, rfl, hr6, hf6⟩
      obtain ⟨ra, rc, rfl⟩ := ow_sliceN hr6
      have HF6 := Lib.hid (HF5b.out.trans hf6 (fun _ h _ => h))
      have HQ6 := Lib.hid (HQ5b.out.trans hf6 (fun _ h _ => h))
      have HS6 := Lib.hid (same10_any w6 _ _ N N (HB4.out.quiet HQ6.out).rd (RdC.of_owns hr6))
      rw [decide_eq_true rfl] at HS6
      clear hr6 hf6
      go_wp2_with fail
      refine HS6.out.mono ?_
      rintro e w' ⟨rfl, m6, hm6⟩
      obtain ⟨x6, rfl⟩ : ∃ x, x = w' := ⟨_, rfl⟩
      have HF6b : Hid (Fr (fun _ => False) wG x6) := by rw [hm6]; exact HF6.out.thenDrewN _
      have HQ6b : Hid (Fr (fun _ => False) w4 x6) := by rw [hm6]; exact HQ6.out.thenDrewN _
      clear hm6 HS6
      go_wp2_with fail
      refine (HRD.out x6 HF6b.out).mono ?_
      rintro e w7 ⟨v7, rfl, hr7, hf7⟩
      obtain ⟨ta, tc, rfl⟩ := ow_sliceN hr7
      have HF7 := Lib.hid (HF6b.out.trans hf7 (fun _ h _ => h))
      have HQ7 := Lib.hid (HQ6b.out.trans hf7 (fun _ h _ => h))
      have HS7 := Lib.hid (same10_any w7 _ _ D D (HC4.out.quiet HQ7.out).rd (RdC.of_owns hr7))
      rw [decide_eq_true rfl] at HS7
      clear hr7 hf7
      go_wp2_with fail
      refine HS7.out.mono ?_
      rintro e w' ⟨rfl, m7, hm7⟩
      obtain ⟨x7, rfl⟩ : ∃ x, x = w' := ⟨_, rfl⟩
      have HF7b : Hid (Fr (fun _ => False) wG x7) := by rw [hm7]; exact HF7.out.thenDrewN _
      have HQ7b : Hid (Fr (fun _ => False) w4 x7) := by rw [hm7]; exact HQ7.out.thenDrewN _
      have HA7 := Lib.hid (HA4.out.quiet HQ7b.out)
      have HB7 := Lib.hid (HB4.out.quiet HQ7b.out)
      have HC7 := Lib.hid (HC4.out.quiet HQ7b.out)
      have HE7 := Lib.hid (HE4.out.quiet HQ7b.out)
      have HS : Hid (wG.heap.size ≤ w1.heap.size ∧ w1.heap.size ≤ w2.heap.size ∧ w2.heap.size ≤ w3.heap.size ∧ w3.heap.size ≤ w4.heap.size ∧ w4.heap.size ≤ x7.heap.size) := by
        have z1 := HF1.out.size
        have z2 := HQ2.out.size
        have z3 := HQ3.out.size
        have z7 := HQ7b.out.size
        exact ⟨z1, z2, z3, HS34.out, z7⟩
      clear hm7 HS7 HA4 HB4 HC4 HE4 HF1 HF2 HF3 HF4 HF5 HF6 HF5b HF6b HQ2 HQ3 HQ5 HQ6 HQ7 HQ5b HQ6b HQ7b HU HN HRN HD HRD HF7
      have hx7 : wG.heap.size ≤ x7.heap.size := HF7b.out.size
      have hUb2 := hUb
      have HSA := Lib.hid (spoil10_any x7 _ _ _ _ HA7.out.own (by omega) hx7)
      go_wp2_with fail
      refine HSA.out.mono ?_
      rintro e y1 ⟨rfl, hfa⟩
      have HY1 := Lib.hid (HF7b.out.wide hfa (fun k hk => .inr (HAL.out k hk).1))
      have HB8 := Lib.hid (HB7.out.fr hfa (fun k hk => (HAL.out k hk).2))
      have HC8 := Lib.hid (HC7.out.fr hfa (fun k hk => by have := (HAL.out k hk).2; have := HS.out.2.1; omega))
      have HE8 := Lib.hid (HE7.out.fr hfa (fun k hk => by have := (HAL.out k hk).2; have := HS.out.2.1; have := HS.out.2.2.1; omega))
      have HZ1 : Hid (w4.heap.size ≤ y1.heap.size) := Nat.le_trans HS.out.2.2.2.2 hfa.size
      have hs8 : w1.heap.size ≤ y1.heap.size := by have := HS.out; have := HZ1.out; omega
      have HSB := Lib.hid (spoil10_any y1 _ _ _ _ HB8.out.own (by have := HLEN.out.1; omega) hs8)
      clear hfa HSA HA7 HB7 HC7 HE7 hs8 hx7
      go_wp2_with fail
      refine HSB.out.mono ?_
      rintro e y2 ⟨rfl, hfb⟩
      have HY2 := Lib.hid (HY1.out.wide hfb (fun k hk => .inr (by have := (HBL.out k hk).1; have := HS.out.1; omega)))
      have HC9 := Lib.hid (HC8.out.fr hfb (fun k hk => (HBL.out k hk).2))
      have HE9 := Lib.hid (HE8.out.fr hfb (fun k hk => by have := (HBL.out k hk).2; have := HS.out.2.2.1; omega))
      have HZ2 : Hid (w4.heap.size ≤ y2.heap.size) := Nat.le_trans HZ1.out hfb.size
      have hs9 : w2.heap.size ≤ y2.heap.size := by have := HS.out; have := HZ2.out; omega
      have HSC := Lib.hid (spoil10_any y2 _ _ _ _ HC9.out.own (by have := HLEN.out.2; omega) hs9)
      clear hfb HSB HB8 HC8 HE8 hs9
      go_wp2_with fail
      refine HSC.out.mono ?_
      rintro e y3 ⟨rfl, hfc⟩
      have HY3 := Lib.hid (HY2.out.wide hfc (fun k hk => .inr (by have := (HCL.out k hk).1; have := HS.out.1; have := HS.out.2.1; omega)))
      have HE10 := Lib.hid (HE9.out.fr hfc (fun k hk => (HCL.out k hk).2))
      clear hfc HSC HC9 HE9
      go_wp2_with fail
      refine (HRU.out y3 HY3.out).mono ?_
      rintro e z1 ⟨v9, U9, rfl, hU9, -, hr9, hf9⟩
      obtain rfl := hU9.one HUR.out (fun _ => Iff.rfl)
      obtain ⟨qa9, qc9, rfl⟩ := ow_sliceN hr9
      have HF9 := Lib.hid (HY3.out.trans hf9 (fun _ h _ => h))
      have HS9 := Lib.hid (same10_any z1 _ _ _ _ (HE10.out.quiet hf9).rd (RdC.of_owns hr9))
      rw [decide_eq_true rfl] at HS9
      clear hU9 hr9 hf9 HE10 HRU
      go_wp2_with fail
      refine HS9.out.mono ?_
      rintro e w' ⟨rfl, m9, hm9⟩
      obtain ⟨z2, rfl⟩ : ∃ x, x = w' := ⟨_, rfl⟩
      have HF10 : Hid (Fr (fun _ => False) wG z2) := by rw [hm9]; exact HF9.out.thenDrewN _
      clear hm9 HS9 HF9 HY1 HY2 HY3
      go_wp2_with fail
      go_loopw [115] (fun i wr => ∃ k : Nat, i = .int .i64 k ∧ k ≤ ps.length ∧ Hid (Fr (fun _ => False) wG wr)) (fun i _ => ps.length - (intOf i).toNat)
      case atStart => exact ⟨0, rfl, by omega, HF10⟩
      case round =>
        obtain ⟨k, rfl, hk, HF⟩ := hrel
        obtain ⟨wo2, rfl⟩ : ∃ x, x = wr := ⟨_, rfl⟩
        clear HF10
        by_cases hlt : k < ps.length
        · obtain ⟨gg, gof, eg, hgc⟩ := HRG.out.at (by rw [List.length_map]; omega)
          cases eg
          obtain ⟨gf, cf, ef, -, -⟩ := HPG.out.rf.form (by omega)
          cases ef
          obtain ⟨gm, cm, em, -, -⟩ := HPG.out.rm.form (by omega)
          cases em
          obtain ⟨o, ho⟩ : ∃ o, ps[k] = o := ⟨_, rfl⟩
          have hko : ps[k]? = some o := by rw [List.getElem?_eq_getElem hlt, ho]
          have hgk := hgc k (oF o) (by rw [List.getElem?_map, hko]; rfl)
          have HCELL : Hid (∀ V, Fr (fun _ => False) wG V → V.cell? ⟨gg, gof + k, none⟩ = some (oF o) ∧ V.cell? ⟨gf, k, none⟩ = some (oF o) ∧ V.cell? ⟨gm, k, none⟩ = some (oM o)) := fun V hf => ⟨hf.cell hgk (fun h => h), by rw [(HPG.out.quiet hf).rf.cellAt k (by omega), List.getElem?_map, hko]; rfl, by rw [(HPG.out.quiet hf).rm.cellAt k (by omega), List.getElem?_map, hko]; rfl⟩
          have HKO := Lib.hid hko
          have b0 : (0 : Int) ≤ (k : Int) := by omega
          have b1 : (k : Int) < (ps.length : Int) := by omega
          clear hgc hgk ho hko
          go_upto_region 37 with (fail)
          cases o with
          | none =>
            have HS0 : Hid (∀ V, Fr (fun _ => False) wG V → V.cell? ⟨gg, gof + k, none⟩ = some (.pointer none) ∧ V.cell? ⟨gf, k, none⟩ = some (.pointer none) ∧ V.cell? ⟨gm, k, none⟩ = some (.pointer none)) := HCELL.out
            have HD := Lib.hid (HF.out.trans (Fr.drew (fun _ => False) wo2) (fun _ h _ => h))
            refine wp_region_held_drew (S := fun V => V.cell? ⟨gg, gof + k, none⟩ = some (.pointer none) ∧ V.cell? ⟨gf, k, none⟩ = some (.pointer none) ∧ V.cell? ⟨gm, k, none⟩ = some (.pointer none)) (by kernel_rfl) ?_ (fun hHeld => ?_)
            · exact HS0.out _ HD.out
            refine takeH (i := 0) (d := 118) (v := ?vn0) rfl (by kernel_rfl) (by kernel_rfl) (by kernel_rfl) (by kernel_rfl) (fun _ _ _ h => h) (Or.inl ⟨by kernel_rfl, ?hyn0⟩) hHeld ?restn0
            case hyn0 =>
              intro w hSw
              try dsimp only at hSw
              first | (go_simp; done) | (go_simp; with_reducible rfl)
            try simp only [Act.put, List.setIfInBounds_toArray, List.set_cons_zero, List.set_cons_succ]
            refine takeH (i := 1) (d := 119) (v := ?vn1) rfl (by kernel_rfl) (by kernel_rfl) (by kernel_rfl) (by kernel_rfl) (fun _ _ _ h => h) (Or.inl ⟨by kernel_rfl, ?hyn1⟩) hHeld ?restn1
            case hyn1 =>
              intro w hSw
              try dsimp only at hSw
              first | (go_simp; done) | (go_simp; with_reducible rfl)
            try simp only [Act.put, List.setIfInBounds_toArray, List.set_cons_zero, List.set_cons_succ]
            refine takeH (i := 2) (d := 120) (v := ?vn2) rfl (by kernel_rfl) (by kernel_rfl) (by kernel_rfl) (by kernel_rfl) (fun _ _ _ h => h) (Or.inl ⟨by kernel_rfl, ?hyn2⟩) hHeld ?restn2
            case hyn2 =>
              intro w hSw
              try dsimp only at hSw
              first | (go_simp; done) | (go_simp; with_reducible rfl)
            try simp only [Act.put, List.setIfInBounds_toArray, List.set_cons_zero, List.set_cons_succ]
            refine takeH (i := 3) (d := 121) (v := ?vn3) rfl (by kernel_rfl) (by kernel_rfl) (by kernel_rfl) (by kernel_rfl) (fun _ _ _ h => h) (Or.inl ⟨by kernel_rfl, ?hyn3⟩) hHeld ?restn3
            case hyn3 =>
              intro w hSw
              try dsimp only at hSw
              first | (go_simp; done) | (go_simp; with_reducible rfl)
            try simp only [Act.put, List.setIfInBounds_toArray, List.set_cons_zero, List.set_cons_succ]
            refine takeH (i := 4) (d := 122) (v := ?vn4) rfl (by kernel_rfl) (by kernel_rfl) (by kernel_rfl) (by kernel_rfl) (fun _ _ _ h => h) (Or.inl ⟨by kernel_rfl, ?hyn4⟩) hHeld ?restn4
            case hyn4 =>
              intro w hSw
              try dsimp only at hSw
              first | (go_simp; done) | (go_simp; with_reducible rfl)
            try simp only [Act.put, List.setIfInBounds_toArray, List.set_cons_zero, List.set_cons_succ]
            refine takeH (i := 5) (d := 123) (v := ?vn5) rfl (by kernel_rfl) (by kernel_rfl) (by kernel_rfl) (by kernel_rfl) (fun _ _ _ h => h) (Or.inl ⟨by kernel_rfl, ?hyn5⟩) hHeld ?restn5
            case hyn5 =>
              intro w hSw
              try dsimp only at hSw
              first | (go_simp; done) | (go_simp; with_reducible rfl)
            try simp only [Act.put, List.setIfInBounds_toArray, List.set_cons_zero, List.set_cons_succ]
            refine takeH (i := 6) (d := 124) (v := ?vn6) rfl (by kernel_rfl) (by kernel_rfl) (by kernel_rfl) (by kernel_rfl) (fun _ _ _ h => h) (Or.inl ⟨by kernel_rfl, ?hyn6⟩) hHeld ?restn6
            case hyn6 =>
              intro w hSw
              try dsimp only at hSw
              first | (go_simp; done) | (go_simp; with_reducible rfl)
            try simp only [Act.put, List.setIfInBounds_toArray, List.set_cons_zero, List.set_cons_succ]
            refine takeH (i := 7) (d := 125) (v := ?vn7) rfl (by kernel_rfl) (by kernel_rfl) (by kernel_rfl) (by kernel_rfl) (fun _ _ _ h => h) (Or.inl ⟨by kernel_rfl, ?hyn7⟩) hHeld ?restn7
            case hyn7 =>
              intro w hSw
              try dsimp only at hSw
              first | (go_simp; done) | (go_simp; with_reducible rfl)
            try simp only [Act.put, List.setIfInBounds_toArray, List.set_cons_zero, List.set_cons_succ]
            refine takeH (i := 8) (d := 126) (v := ?vn8) rfl (by kernel_rfl) (by kernel_rfl) (by kernel_rfl) (by kernel_rfl) (fun _ _ _ h => h) (Or.inl ⟨by kernel_rfl, ?hyn8⟩) hHeld ?restn8
            case hyn8 =>
              intro w hSw
              try dsimp only at hSw
              first | (go_simp; done) | (go_simp; with_reducible rfl)
            try simp only [Act.put, List.setIfInBounds_toArray, List.set_cons_zero, List.set_cons_succ]
            refine takeH (i := 9) (d := 127) (v := ?vn9) rfl (by kernel_rfl) (by kernel_rfl) (by kernel_rfl) (by kernel_rfl) (fun _ _ _ h => h) (Or.inl ⟨by kernel_rfl, ?hyn9⟩) hHeld ?restn9
            case hyn9 =>
              intro w hSw
              try dsimp only at hSw
              first | (go_simp; done) | (go_simp; with_reducible rfl)
            try simp only [Act.put, List.setIfInBounds_toArray, List.set_cons_zero, List.set_cons_succ]
            refine takeH (i := 10) (d := 128) (v := ?vn10) rfl (by kernel_rfl) (by kernel_rfl) (by kernel_rfl) (by kernel_rfl) (fun _ _ _ h => h) (Or.inl ⟨by kernel_rfl, ?hyn10⟩) hHeld ?restn10
            case hyn10 =>
              intro w hSw
              try dsimp only at hSw
              first | (go_simp; done) | (go_simp; with_reducible rfl)
            try simp only [Act.put, List.setIfInBounds_toArray, List.set_cons_zero, List.set_cons_succ]
            refine takeH (i := 11) (d := 129) (v := ?vn11) rfl (by kernel_rfl) (by kernel_rfl) (by kernel_rfl) (by kernel_rfl) (fun _ _ _ h => h) (Or.inl ⟨by kernel_rfl, ?hyn11⟩) hHeld ?restn11
            case hyn11 =>
              intro w hSw
              try dsimp only at hSw
              first | (go_simp; done) | (go_simp; with_reducible rfl)
            try simp only [Act.put, List.setIfInBounds_toArray, List.set_cons_zero, List.set_cons_succ]
            refine takeH (i := 12) (d := 130) (v := ?vn12) rfl (by kernel_rfl) (by kernel_rfl) (by kernel_rfl) (by kernel_rfl) (fun _ _ _ h => h) (Or.inl ⟨by kernel_rfl, ?hyn12⟩) hHeld ?restn12
            case hyn12 =>
              intro w hSw
              try dsimp only at hSw
              first | (go_simp; done) | (go_simp; with_reducible rfl)
            try simp only [Act.put, List.setIfInBounds_toArray, List.set_cons_zero, List.set_cons_succ]
            refine takeH (i := 13) (d := 131) (v := ?vn13) rfl (by kernel_rfl) (by kernel_rfl) (by kernel_rfl) (by kernel_rfl) (fun _ _ _ h => h) (Or.inl ⟨by kernel_rfl, ?hyn13⟩) hHeld ?restn13
            case hyn13 =>
              intro w hSw
              try dsimp only at hSw
              first | (go_simp; done) | (go_simp; with_reducible rfl)
            try simp only [Act.put, List.setIfInBounds_toArray, List.set_cons_zero, List.set_cons_succ]
            refine takeH (i := 14) (d := 132) (v := ?vn14) rfl (by kernel_rfl) (by kernel_rfl) (by kernel_rfl) (by kernel_rfl) (fun _ _ _ h => h) (Or.inl ⟨by kernel_rfl, ?hyn14⟩) hHeld ?restn14
            case hyn14 =>
              intro w hSw
              try dsimp only at hSw
              first | (go_simp; done) | (go_simp; with_reducible rfl)
            try simp only [Act.put, List.setIfInBounds_toArray, List.set_cons_zero, List.set_cons_succ]
            refine takeH (i := 15) (d := 133) (v := ?vn15) rfl (by kernel_rfl) (by kernel_rfl) (by kernel_rfl) (by kernel_rfl) (fun _ _ _ h => h) (Or.inl ⟨by kernel_rfl, ?hyn15⟩) hHeld ?restn15
            case hyn15 =>
              intro w hSw
              try dsimp only at hSw
              first | (go_simp; done) | (go_simp; with_reducible rfl)
            try simp only [Act.put, List.setIfInBounds_toArray, List.set_cons_zero, List.set_cons_succ]
            refine takeH (i := 16) (d := 134) (v := undef) rfl (by kernel_rfl) (by kernel_rfl) (by kernel_rfl) (by kernel_rfl) (fun _ _ _ h => h) (Or.inr ⟨by kernel_rfl, rfl⟩) hHeld ?_
            try simp only [Act.put, List.setIfInBounds_toArray, List.set_cons_zero, List.set_cons_succ]
            refine takeH (i := 17) (d := 135) (v := undef) rfl (by kernel_rfl) (by kernel_rfl) (by kernel_rfl) (by kernel_rfl) (fun _ _ _ h => h) (Or.inr ⟨by kernel_rfl, rfl⟩) hHeld ?_
            try simp only [Act.put, List.setIfInBounds_toArray, List.set_cons_zero, List.set_cons_succ]
            refine takeH (i := 18) (d := 136) (v := undef) rfl (by kernel_rfl) (by kernel_rfl) (by kernel_rfl) (by kernel_rfl) (fun _ _ _ h => h) (Or.inr ⟨by kernel_rfl, rfl⟩) hHeld ?_
            try simp only [Act.put, List.setIfInBounds_toArray, List.set_cons_zero, List.set_cons_succ]
            refine takeH (i := 19) (d := 137) (v := undef) rfl (by kernel_rfl) (by kernel_rfl) (by kernel_rfl) (by kernel_rfl) (fun _ _ _ h => h) (Or.inr ⟨by kernel_rfl, rfl⟩) hHeld ?_
            try simp only [Act.put, List.setIfInBounds_toArray, List.set_cons_zero, List.set_cons_succ]
            refine takeH (i := 20) (d := 138) (v := undef) rfl (by kernel_rfl) (by kernel_rfl) (by kernel_rfl) (by kernel_rfl) (fun _ _ _ h => h) (Or.inr ⟨by kernel_rfl, rfl⟩) hHeld ?_
            try simp only [Act.put, List.setIfInBounds_toArray, List.set_cons_zero, List.set_cons_succ]
            refine takeH (i := 21) (d := 139) (v := undef) rfl (by kernel_rfl) (by kernel_rfl) (by kernel_rfl) (by kernel_rfl) (fun _ _ _ h => h) (Or.inr ⟨by kernel_rfl, rfl⟩) hHeld ?_
            try simp only [Act.put, List.setIfInBounds_toArray, List.set_cons_zero, List.set_cons_succ]
            refine takeH (i := 22) (d := 140) (v := undef) rfl (by kernel_rfl) (by kernel_rfl) (by kernel_rfl) (by kernel_rfl) (fun _ _ _ h => h) (Or.inr ⟨by kernel_rfl, rfl⟩) hHeld ?_
            try simp only [Act.put, List.setIfInBounds_toArray, List.set_cons_zero, List.set_cons_succ]
            refine takeH (i := 23) (d := 141) (v := undef) rfl (by kernel_rfl) (by kernel_rfl) (by kernel_rfl) (by kernel_rfl) (fun _ _ _ h => h) (Or.inr ⟨by kernel_rfl, rfl⟩) hHeld ?_
            try simp only [Act.put, List.setIfInBounds_toArray, List.set_cons_zero, List.set_cons_succ]
            refine takeH (i := 24) (d := 142) (v := undef) rfl (by kernel_rfl) (by kernel_rfl) (by kernel_rfl) (by kernel_rfl) (fun _ _ _ h => h) (Or.inr ⟨by kernel_rfl, rfl⟩) hHeld ?_
            try simp only [Act.put, List.setIfInBounds_toArray, List.set_cons_zero, List.set_cons_succ]
            refine takeH (i := 25) (d := 143) (v := undef) rfl (by kernel_rfl) (by kernel_rfl) (by kernel_rfl) (by kernel_rfl) (fun _ _ _ h => h) (Or.inr ⟨by kernel_rfl, rfl⟩) hHeld ?_
            try simp only [Act.put, List.setIfInBounds_toArray, List.set_cons_zero, List.set_cons_succ]
            refine takeH (i := 26) (d := 144) (v := undef) rfl (by kernel_rfl) (by kernel_rfl) (by kernel_rfl) (by kernel_rfl) (fun _ _ _ h => h) (Or.inr ⟨by kernel_rfl, rfl⟩) hHeld ?_
            try simp only [Act.put, List.setIfInBounds_toArray, List.set_cons_zero, List.set_cons_succ]
            refine takeH (i := 27) (d := 145) (v := undef) rfl (by kernel_rfl) (by kernel_rfl) (by kernel_rfl) (by kernel_rfl) (fun _ _ _ h => h) (Or.inr ⟨by kernel_rfl, rfl⟩) hHeld ?_
            try simp only [Act.put, List.setIfInBounds_toArray, List.set_cons_zero, List.set_cons_succ]
            refine takeH (i := 28) (d := 146) (v := undef) rfl (by kernel_rfl) (by kernel_rfl) (by kernel_rfl) (by kernel_rfl) (fun _ _ _ h => h) (Or.inr ⟨by kernel_rfl, rfl⟩) hHeld ?_
            try simp only [Act.put, List.setIfInBounds_toArray, List.set_cons_zero, List.set_cons_succ]
            refine takeH (i := 29) (d := 147) (v := undef) rfl (by kernel_rfl) (by kernel_rfl) (by kernel_rfl) (by kernel_rfl) (fun _ _ _ h => h) (Or.inr ⟨by kernel_rfl, rfl⟩) hHeld ?_
            try simp only [Act.put, List.setIfInBounds_toArray, List.set_cons_zero, List.set_cons_succ]
            refine takeH (i := 30) (d := 148) (v := undef) rfl (by kernel_rfl) (by kernel_rfl) (by kernel_rfl) (by kernel_rfl) (fun _ _ _ h => h) (Or.inr ⟨by kernel_rfl, rfl⟩) hHeld ?_
            try simp only [Act.put, List.setIfInBounds_toArray, List.set_cons_zero, List.set_cons_succ]
            refine takeH (i := 31) (d := 149) (v := undef) rfl (by kernel_rfl) (by kernel_rfl) (by kernel_rfl) (by kernel_rfl) (fun _ _ _ h => h) (Or.inr ⟨by kernel_rfl, rfl⟩) hHeld ?_
            try simp only [Act.put, List.setIfInBounds_toArray, List.set_cons_zero, List.set_cons_succ]
            refine takeH (i := 32) (d := 150) (v := undef) rfl (by kernel_rfl) (by kernel_rfl) (by kernel_rfl) (by kernel_rfl) (fun _ _ _ h => h) (Or.inr ⟨by kernel_rfl, rfl⟩) hHeld ?_
            try simp only [Act.put, List.setIfInBounds_toArray, List.set_cons_zero, List.set_cons_succ]
            refine takeH (i := 33) (d := 151) (v := undef) rfl (by kernel_rfl) (by kernel_rfl) (by kernel_rfl) (by kernel_rfl) (fun _ _ _ h => h) (Or.inr ⟨by kernel_rfl, rfl⟩) hHeld ?_
            try simp only [Act.put, List.setIfInBounds_toArray, List.set_cons_zero, List.set_cons_succ]
            refine takeH (i := 34) (d := 152) (v := undef) rfl (by kernel_rfl) (by kernel_rfl) (by kernel_rfl) (by kernel_rfl) (fun _ _ _ h => h) (Or.inr ⟨by kernel_rfl, rfl⟩) hHeld ?_
            try simp only [Act.put, List.setIfInBounds_toArray, List.set_cons_zero, List.set_cons_succ]
            refine takeH (i := 35) (d := 153) (v := undef) rfl (by kernel_rfl) (by kernel_rfl) (by kernel_rfl) (by kernel_rfl) (fun _ _ _ h => h) (Or.inr ⟨by kernel_rfl, rfl⟩) hHeld ?_
            try simp only [Act.put, List.setIfInBounds_toArray, List.set_cons_zero, List.set_cons_succ]
            refine takeH (i := 36) (d := 154) (v := undef) rfl (by kernel_rfl) (by kernel_rfl) (by kernel_rfl) (by kernel_rfl) (fun _ _ _ h => h) (Or.inr ⟨by kernel_rfl, rfl⟩) hHeld ?_
            try simp only [Act.put, List.setIfInBounds_toArray, List.set_cons_zero, List.set_cons_succ]
            refine takeH (i := 37) (d := 155) (v := undef) rfl (by kernel_rfl) (by kernel_rfl) (by kernel_rfl) (by kernel_rfl) (fun _ _ _ h => h) (Or.inr ⟨by kernel_rfl, rfl⟩) hHeld ?_
            try simp only [Act.put, List.setIfInBounds_toArray, List.set_cons_zero, List.set_cons_succ]
            refine takeH (i := 38) (d := 156) (v := ?vn16) rfl (by kernel_rfl) (by kernel_rfl) (by kernel_rfl) (by kernel_rfl) (fun _ _ _ h => h) (Or.inl ⟨by kernel_rfl, ?hyn16⟩) hHeld ?restn16
            case hyn16 =>
              intro w hSw
              try dsimp only at hSw
              first | (go_simp; done) | (go_simp; with_reducible rfl)
            try simp only [Act.put, List.setIfInBounds_toArray, List.set_cons_zero, List.set_cons_succ]
            refine takeH (i := 39) (d := 157) (v := ?vn17) rfl (by kernel_rfl) (by kernel_rfl) (by kernel_rfl) (by kernel_rfl) (fun _ _ _ h => h) (Or.inl ⟨by kernel_rfl, ?hyn17⟩) hHeld ?restn17
            case hyn17 =>
              intro w hSw
              try dsimp only at hSw
              first | (go_simp; done) | (go_simp; with_reducible rfl)
            try simp only [Act.put, List.setIfInBounds_toArray, List.set_cons_zero, List.set_cons_succ]
            refine wpAnyH_done (by kernel_rfl) ?_ _
            go_wp2_with fail
            go_roundw
            case rel => exact ⟨k + 1, by go_num, by omega, HD⟩
            case measure => simp [intOf]; omega
          | some q =>
            have HBO := Lib.hid (HPG.out.one k q HKO.out).1
            have HST : Hid (∀ V, Fr (fun _ => False) wG V → Calls Try.prog 39 #[.pointer (some ⟨q.r, 0, none⟩), .pointer (some ⟨q.m, 0, none⟩)] V fun e w' => e = .returned (.bool true) ∧ Fr (fun _ => False) V w') := fun V hf => stands_any (HBO.out.quiet hf)
            have e0 : wd 0 = 0 := rfl
            have hsc : ∀ V, Fr (fun _ => False) wG V → Calls Try.prog 40 #[.pointer (some ⟨q.r, 0, none⟩), .pointer (some ⟨q.m, 0, none⟩), .int .u64 0, .int .i64 2] V fun e w' => e = .returned (.bool true) ∧ Fr (fun _ => False) V w' := fun V hf => by
              have h1 := scans_any (HBO.out.quiet hf) 0 2 (by unfold InI; omega)
              rw [e0] at h1
              exact h1
            have HSC := Lib.hid hsc
            have HCELL2 : Hid (∀ V, Fr (fun _ => False) wG V → V.cell? ⟨gg, gof + k, none⟩ = some (.pointer (some ⟨q.r, 0, none⟩)) ∧ V.cell? ⟨gf, k, none⟩ = some (.pointer (some ⟨q.r, 0, none⟩)) ∧ V.cell? ⟨gm, k, none⟩ = some (.pointer (some ⟨q.m, 0, none⟩))) := HCELL.out
            obtain ⟨qr, hqr⟩ : ∃ x, q.r = x := ⟨_, rfl⟩
            obtain ⟨qm, hqm⟩ : ∃ x, q.m = x := ⟨_, rfl⟩
            rw [hqr, hqm] at HST HSC HCELL2
            have HD := Lib.hid (HF.out.trans (Fr.drew (fun _ => False) wo2) (fun _ h _ => h))
            have hne : ∀ W : World, (binOp .neq 67 (.pointer (some ⟨qr, 0, none⟩)) (.pointer (some ⟨qr, 0, none⟩))).run Try.prog W = .ok (.bool false) W := neq_flo qr
            clear e0 hsc hqr hqm HCELL
            refine wp_region_held_drew (S := fun V => V.cell? ⟨gg, gof + k, none⟩ = some (.pointer (some ⟨qr, 0, none⟩)) ∧ V.cell? ⟨gf, k, none⟩ = some (.pointer (some ⟨qr, 0, none⟩)) ∧ V.cell? ⟨gm, k, none⟩ = some (.pointer (some ⟨qm, 0, none⟩))) (by kernel_rfl) ?_ (fun hHeld => ?_)
            · exact HCELL2.out _ HD.out
            refine takeH (i := 0) (d := 118) (v := ?vs0) rfl (by kernel_rfl) (by kernel_rfl) (by kernel_rfl) (by kernel_rfl) (fun _ _ _ h => h) (Or.inl ⟨by kernel_rfl, ?hys0⟩) hHeld ?rests0
            case hys0 =>
              intro w hSw
              try dsimp only at hSw
              first | (go_simp; done) | (go_simp; with_reducible rfl)
            try simp only [Act.put, List.setIfInBounds_toArray, List.set_cons_zero, List.set_cons_succ]
            refine takeH (i := 1) (d := 119) (v := ?vs1) rfl (by kernel_rfl) (by kernel_rfl) (by kernel_rfl) (by kernel_rfl) (fun _ _ _ h => h) (Or.inl ⟨by kernel_rfl, ?hys1⟩) hHeld ?rests1
            case hys1 =>
              intro w hSw
              try dsimp only at hSw
              first | (go_simp; done) | (go_simp; with_reducible rfl)
            try simp only [Act.put, List.setIfInBounds_toArray, List.set_cons_zero, List.set_cons_succ]
            refine takeH (i := 2) (d := 120) (v := ?vs2) rfl (by kernel_rfl) (by kernel_rfl) (by kernel_rfl) (by kernel_rfl) (fun _ _ _ h => h) (Or.inl ⟨by kernel_rfl, ?hys2⟩) hHeld ?rests2
            case hys2 =>
              intro w hSw
              try dsimp only at hSw
              first | (go_simp; done) | (go_simp; with_reducible rfl)
            try simp only [Act.put, List.setIfInBounds_toArray, List.set_cons_zero, List.set_cons_succ]
            refine takeH (i := 3) (d := 121) (v := ?vs3) rfl (by kernel_rfl) (by kernel_rfl) (by kernel_rfl) (by kernel_rfl) (fun _ _ _ h => h) (Or.inl ⟨by kernel_rfl, ?hys3⟩) hHeld ?rests3
            case hys3 =>
              intro w hSw
              try dsimp only at hSw
              first | (go_simp; done) | (go_simp; with_reducible rfl)
            try simp only [Act.put, List.setIfInBounds_toArray, List.set_cons_zero, List.set_cons_succ]
            refine takeH (i := 4) (d := 122) (v := ?vs4) rfl (by kernel_rfl) (by kernel_rfl) (by kernel_rfl) (by kernel_rfl) (fun _ _ _ h => h) (Or.inl ⟨by kernel_rfl, ?hys4⟩) hHeld ?rests4
            case hys4 =>
              intro w hSw
              try dsimp only at hSw
              first | (go_simp; done) | (go_simp; with_reducible rfl)
            try simp only [Act.put, List.setIfInBounds_toArray, List.set_cons_zero, List.set_cons_succ]
            refine takeH (i := 5) (d := 123) (v := ?vs5) rfl (by kernel_rfl) (by kernel_rfl) (by kernel_rfl) (by kernel_rfl) (fun _ _ _ h => h) (Or.inl ⟨by kernel_rfl, ?hys5⟩) hHeld ?rests5
            case hys5 =>
              intro w hSw
              try dsimp only at hSw
              first | (go_simp; done) | (go_simp; with_reducible rfl)
            try simp only [Act.put, List.setIfInBounds_toArray, List.set_cons_zero, List.set_cons_succ]
            refine takeH (i := 6) (d := 124) (v := ?vs6) rfl (by kernel_rfl) (by kernel_rfl) (by kernel_rfl) (by kernel_rfl) (fun _ _ _ h => h) (Or.inl ⟨by kernel_rfl, ?hys6⟩) hHeld ?rests6
            case hys6 =>
              intro w hSw
              try dsimp only at hSw
              first | (go_simp; done) | (go_simp; with_reducible rfl)
            try simp only [Act.put, List.setIfInBounds_toArray, List.set_cons_zero, List.set_cons_succ]
            refine takeH (i := 7) (d := 125) (v := ?vs7) rfl (by kernel_rfl) (by kernel_rfl) (by kernel_rfl) (by kernel_rfl) (fun _ _ _ h => h) (Or.inl ⟨by kernel_rfl, ?hys7⟩) hHeld ?rests7
            case hys7 =>
              intro w hSw
              try dsimp only at hSw
              first | (go_simp; done) | (go_simp; with_reducible rfl)
            try simp only [Act.put, List.setIfInBounds_toArray, List.set_cons_zero, List.set_cons_succ]
            refine takeH (i := 8) (d := 126) (v := ?vs8) rfl (by kernel_rfl) (by kernel_rfl) (by kernel_rfl) (by kernel_rfl) (fun _ _ _ h => h) (Or.inl ⟨by kernel_rfl, ?hys8⟩) hHeld ?rests8
            case hys8 =>
              intro w hSw
              try dsimp only at hSw
              first | (go_simp; done) | (go_simp; with_reducible rfl)
            try simp only [Act.put, List.setIfInBounds_toArray, List.set_cons_zero, List.set_cons_succ]
            refine takeH (i := 9) (d := 127) (v := ?vs9) rfl (by kernel_rfl) (by kernel_rfl) (by kernel_rfl) (by kernel_rfl) (fun _ _ _ h => h) (Or.inl ⟨by kernel_rfl, ?hys9⟩) hHeld ?rests9
            case hys9 =>
              intro w hSw
              try dsimp only at hSw
              first | (go_simp; done) | (go_simp; with_reducible rfl)
            try simp only [Act.put, List.setIfInBounds_toArray, List.set_cons_zero, List.set_cons_succ]
            refine takeH (i := 10) (d := 128) (v := ?vs10) rfl (by kernel_rfl) (by kernel_rfl) (by kernel_rfl) (by kernel_rfl) (fun _ _ _ h => h) (Or.inl ⟨by kernel_rfl, ?hys10⟩) hHeld ?rests10
            case hys10 =>
              intro w hSw
              try dsimp only at hSw
              first | (go_simp; done) | (go_simp; with_reducible rfl)
            try simp only [Act.put, List.setIfInBounds_toArray, List.set_cons_zero, List.set_cons_succ]
            refine takeH (i := 11) (d := 129) (v := ?vs11) rfl (by kernel_rfl) (by kernel_rfl) (by kernel_rfl) (by kernel_rfl) (fun _ _ _ h => h) (Or.inl ⟨by kernel_rfl, ?hys11⟩) hHeld ?rests11
            case hys11 =>
              intro w hSw
              try dsimp only at hSw
              first | (go_simp; done) | (go_simp; with_reducible rfl)
            try simp only [Act.put, List.setIfInBounds_toArray, List.set_cons_zero, List.set_cons_succ]
            refine takeH (i := 12) (d := 130) (v := ?vs12) rfl (by kernel_rfl) (by kernel_rfl) (by kernel_rfl) (by kernel_rfl) (fun _ _ _ h => h) (Or.inl ⟨by kernel_rfl, ?hys12⟩) hHeld ?rests12
            case hys12 =>
              intro w hSw
              try dsimp only at hSw
              first | (go_simp; done) | (go_simp; with_reducible rfl)
            try simp only [Act.put, List.setIfInBounds_toArray, List.set_cons_zero, List.set_cons_succ]
            refine takeH (i := 13) (d := 131) (v := ?vs13) rfl (by kernel_rfl) (by kernel_rfl) (by kernel_rfl) (by kernel_rfl) (fun _ _ _ h => h) (Or.inl ⟨by kernel_rfl, ?hys13⟩) hHeld ?rests13
            case hys13 =>
              intro w hSw
              try dsimp only at hSw
              first | (go_simp; done) | (go_simp; with_reducible rfl)
            try simp only [Act.put, List.setIfInBounds_toArray, List.set_cons_zero, List.set_cons_succ]
            refine takeH (i := 14) (d := 132) (v := ?vs14) rfl (by kernel_rfl) (by kernel_rfl) (by kernel_rfl) (by kernel_rfl) (fun _ _ _ h => h) (Or.inl ⟨by kernel_rfl, ?hys14⟩) hHeld ?rests14
            case hys14 =>
              intro w hSw
              try dsimp only at hSw
              first | (go_simp; done) | (go_simp; with_reducible rfl)
            try simp only [Act.put, List.setIfInBounds_toArray, List.set_cons_zero, List.set_cons_succ]
            refine takeH (i := 15) (d := 133) (v := ?vs15) rfl (by kernel_rfl) (by kernel_rfl) (by kernel_rfl) (by kernel_rfl) (fun _ _ _ h => h) (Or.inl ⟨by kernel_rfl, ?hys15⟩) hHeld ?rests15
            case hys15 =>
              intro w hSw
              try dsimp only at hSw
              first | (go_simp; done) | (go_simp; with_reducible rfl)
            try simp only [Act.put, List.setIfInBounds_toArray, List.set_cons_zero, List.set_cons_succ]
            refine takeH (i := 16) (d := 134) (v := ?vs16) rfl (by kernel_rfl) (by kernel_rfl) (by kernel_rfl) (by kernel_rfl) (fun _ _ _ h => h) (Or.inl ⟨by kernel_rfl, ?hys16⟩) hHeld ?rests16
            case hys16 =>
              intro w hSw
              try dsimp only at hSw
              first | (go_simp; done) | (go_simp; with_reducible rfl)
            try simp only [Act.put, List.setIfInBounds_toArray, List.set_cons_zero, List.set_cons_succ]
            refine takeH (i := 17) (d := 135) (v := ?vs17) rfl (by kernel_rfl) (by kernel_rfl) (by kernel_rfl) (by kernel_rfl) (fun _ _ _ h => h) (Or.inl ⟨by kernel_rfl, ?hys17⟩) hHeld ?rests17
            case hys17 =>
              intro w hSw
              try dsimp only at hSw
              first | (go_simp; done) | (go_simp; with_reducible rfl)
            try simp only [Act.put, List.setIfInBounds_toArray, List.set_cons_zero, List.set_cons_succ]
            refine takeH (i := 18) (d := 136) (v := ?vs18) rfl (by kernel_rfl) (by kernel_rfl) (by kernel_rfl) (by kernel_rfl) (fun _ _ _ h => h) (Or.inl ⟨by kernel_rfl, ?hys18⟩) hHeld ?rests18
            case hys18 =>
              intro w hSw
              try dsimp only at hSw
              first | (go_simp; done) | (go_simp; with_reducible rfl)
            try simp only [Act.put, List.setIfInBounds_toArray, List.set_cons_zero, List.set_cons_succ]
            refine takeH (i := 19) (d := 137) (v := ?vs19) rfl (by kernel_rfl) (by kernel_rfl) (by kernel_rfl) (by kernel_rfl) (fun _ _ _ h => h) (Or.inl ⟨by kernel_rfl, ?hys19⟩) hHeld ?rests19
            case hys19 =>
              intro w hSw
              try dsimp only at hSw
              first | (go_simp; done) | (go_simp; with_reducible rfl)
            try simp only [Act.put, List.setIfInBounds_toArray, List.set_cons_zero, List.set_cons_succ]
            refine takeH (i := 20) (d := 138) (v := ?vs20) rfl (by kernel_rfl) (by kernel_rfl) (by kernel_rfl) (by kernel_rfl) (fun _ _ _ h => h) (Or.inl ⟨by kernel_rfl, ?hys20⟩) hHeld ?rests20
            case hys20 =>
              intro w hSw
              try dsimp only at hSw
              first | (go_simp; done) | (go_simp; with_reducible rfl)
            try simp only [Act.put, List.setIfInBounds_toArray, List.set_cons_zero, List.set_cons_succ]
            refine takeH (i := 21) (d := 139) (v := ?vs21) rfl (by kernel_rfl) (by kernel_rfl) (by kernel_rfl) (by kernel_rfl) (fun _ _ _ h => h) (Or.inl ⟨by kernel_rfl, ?hys21⟩) hHeld ?rests21
            case hys21 =>
              intro w hSw
              try dsimp only at hSw
              first | (go_simp; done) | (go_simp; with_reducible rfl)
            try simp only [Act.put, List.setIfInBounds_toArray, List.set_cons_zero, List.set_cons_succ]
            refine takeH (i := 22) (d := 140) (v := ?vs22) rfl (by kernel_rfl) (by kernel_rfl) (by kernel_rfl) (by kernel_rfl) (fun _ _ _ h => h) (Or.inl ⟨by kernel_rfl, ?hys22⟩) hHeld ?rests22
            case hys22 =>
              intro w hSw
              try dsimp only at hSw
              first | (go_simp; done) | (go_simp; with_reducible rfl)
            try simp only [Act.put, List.setIfInBounds_toArray, List.set_cons_zero, List.set_cons_succ]
            refine takeH (i := 23) (d := 141) (v := ?vs23) rfl (by kernel_rfl) (by kernel_rfl) (by kernel_rfl) (by kernel_rfl) (fun _ _ _ h => h) (Or.inl ⟨by kernel_rfl, ?hys23⟩) hHeld ?rests23
            case hys23 =>
              intro w hSw
              try dsimp only at hSw
              first | (go_simp; done) | (go_simp; with_reducible rfl)
            try simp only [Act.put, List.setIfInBounds_toArray, List.set_cons_zero, List.set_cons_succ]
            refine wpAnyH_ready (rs := [24]) (by kernel_rfl) (by simp) ?_
            refine AllReadyH.cons rfl (fun K hK => ?_) AllReadyH.nil
            have HH := Lib.hid hHeld
            clear hHeld
            go_simp
            refine (HST.out _ HD.out).mono ?_
            rintro e x1 ⟨rfl, hf1⟩
            have HF1 := Lib.hid (HD.out.trans hf1 (fun _ h _ => h))
            clear hf1
            refine hK.out _ _ ?_ (fun hNew => ?_)
            · exact HCELL2.out _ HF1.out
            clear hK K HH
            have hHeld := hNew
            clear hNew
            try simp only [Act.put, List.setIfInBounds_toArray, List.set_cons_zero, List.set_cons_succ]
            refine takeH (i := 25) (d := 143) (v := ?vs24) rfl (by kernel_rfl) (by kernel_rfl) (by kernel_rfl) (by kernel_rfl) (fun _ _ _ h => h) (Or.inl ⟨by kernel_rfl, ?hys24⟩) hHeld ?rests24
            case hys24 =>
              intro w hSw
              try dsimp only at hSw
              first | (go_simp; done) | (go_simp; with_reducible rfl)
            try simp only [Act.put, List.setIfInBounds_toArray, List.set_cons_zero, List.set_cons_succ]
            refine takeH (i := 26) (d := 144) (v := ?vs25) rfl (by kernel_rfl) (by kernel_rfl) (by kernel_rfl) (by kernel_rfl) (fun _ _ _ h => h) (Or.inl ⟨by kernel_rfl, ?hys25⟩) hHeld ?rests25
            case hys25 =>
              intro w hSw
              try dsimp only at hSw
              first | (go_simp; done) | (go_simp; with_reducible rfl)
            try simp only [Act.put, List.setIfInBounds_toArray, List.set_cons_zero, List.set_cons_succ]
            refine takeH (i := 27) (d := 145) (v := ?vs26) rfl (by kernel_rfl) (by kernel_rfl) (by kernel_rfl) (by kernel_rfl) (fun _ _ _ h => h) (Or.inl ⟨by kernel_rfl, ?hys26⟩) hHeld ?rests26
            case hys26 =>
              intro w hSw
              try dsimp only at hSw
              first | (go_simp; done) | (go_simp; with_reducible rfl)
            try simp only [Act.put, List.setIfInBounds_toArray, List.set_cons_zero, List.set_cons_succ]
            refine takeH (i := 28) (d := 146) (v := ?vs27) rfl (by kernel_rfl) (by kernel_rfl) (by kernel_rfl) (by kernel_rfl) (fun _ _ _ h => h) (Or.inl ⟨by kernel_rfl, ?hys27⟩) hHeld ?rests27
            case hys27 =>
              intro w hSw
              try dsimp only at hSw
              first | (go_simp; done) | (go_simp; with_reducible rfl)
            try simp only [Act.put, List.setIfInBounds_toArray, List.set_cons_zero, List.set_cons_succ]
            refine takeH (i := 29) (d := 147) (v := ?vs28) rfl (by kernel_rfl) (by kernel_rfl) (by kernel_rfl) (by kernel_rfl) (fun _ _ _ h => h) (Or.inl ⟨by kernel_rfl, ?hys28⟩) hHeld ?rests28
            case hys28 =>
              intro w hSw
              try dsimp only at hSw
              first | (go_simp; done) | (go_simp; with_reducible rfl)
            try simp only [Act.put, List.setIfInBounds_toArray, List.set_cons_zero, List.set_cons_succ]
            refine takeH (i := 30) (d := 148) (v := ?vs29) rfl (by kernel_rfl) (by kernel_rfl) (by kernel_rfl) (by kernel_rfl) (fun _ _ _ h => h) (Or.inl ⟨by kernel_rfl, ?hys29⟩) hHeld ?rests29
            case hys29 =>
              intro w hSw
              try dsimp only at hSw
              first | (go_simp; done) | (go_simp; with_reducible rfl)
            try simp only [Act.put, List.setIfInBounds_toArray, List.set_cons_zero, List.set_cons_succ]
            refine takeH (i := 31) (d := 149) (v := ?vs30) rfl (by kernel_rfl) (by kernel_rfl) (by kernel_rfl) (by kernel_rfl) (fun _ _ _ h => h) (Or.inl ⟨by kernel_rfl, ?hys30⟩) hHeld ?rests30
            case hys30 =>
              intro w hSw
              try dsimp only at hSw
              first | (go_simp; done) | (go_simp; with_reducible rfl)
            try simp only [Act.put, List.setIfInBounds_toArray, List.set_cons_zero, List.set_cons_succ]
            refine takeH (i := 32) (d := 150) (v := ?vs31) rfl (by kernel_rfl) (by kernel_rfl) (by kernel_rfl) (by kernel_rfl) (fun _ _ _ h => h) (Or.inl ⟨by kernel_rfl, ?hys31⟩) hHeld ?rests31
            case hys31 =>
              intro w hSw
              try dsimp only at hSw
              first | (go_simp; done) | (go_simp; with_reducible rfl)
            try simp only [Act.put, List.setIfInBounds_toArray, List.set_cons_zero, List.set_cons_succ]
            refine takeH (i := 33) (d := 151) (v := ?vs32) rfl (by kernel_rfl) (by kernel_rfl) (by kernel_rfl) (by kernel_rfl) (fun _ _ _ h => h) (Or.inl ⟨by kernel_rfl, ?hys32⟩) hHeld ?rests32
            case hys32 =>
              intro w hSw
              try dsimp only at hSw
              first | (go_simp; done) | (go_simp; with_reducible rfl)
            try simp only [Act.put, List.setIfInBounds_toArray, List.set_cons_zero, List.set_cons_succ]
            refine takeH (i := 34) (d := 152) (v := ?vs33) rfl (by kernel_rfl) (by kernel_rfl) (by kernel_rfl) (by kernel_rfl) (fun _ _ _ h => h) (Or.inl ⟨by kernel_rfl, ?hys33⟩) hHeld ?rests33
            case hys33 =>
              intro w hSw
              try dsimp only at hSw
              first | (go_simp; done) | (go_simp; with_reducible rfl)
            try simp only [Act.put, List.setIfInBounds_toArray, List.set_cons_zero, List.set_cons_succ]
            refine wpAnyH_ready (rs := [35]) (by kernel_rfl) (by simp) ?_
            refine AllReadyH.cons rfl (fun K hK => ?_) AllReadyH.nil
            have HH := Lib.hid hHeld
            clear hHeld
            go_simp
            refine (HSC.out _ HF1.out).mono ?_
            rintro e x2 ⟨rfl, hf2⟩
            have HF2 := Lib.hid (HF1.out.trans hf2 (fun _ h _ => h))
            clear hf2
            refine hK.out _ _ ?_ (fun hNew => ?_)
            · exact HCELL2.out _ HF2.out
            clear hK K HH
            have hHeld := hNew
            clear hNew
            try simp only [Act.put, List.setIfInBounds_toArray, List.set_cons_zero, List.set_cons_succ]
            refine takeH (i := 36) (d := 154) (v := ?vs34) rfl (by kernel_rfl) (by kernel_rfl) (by kernel_rfl) (by kernel_rfl) (fun _ _ _ h => h) (Or.inl ⟨by kernel_rfl, ?hys34⟩) hHeld ?rests34
            case hys34 =>
              intro w hSw
              try dsimp only at hSw
              first | (go_simp; done) | (go_simp; with_reducible rfl)
            try simp only [Act.put, List.setIfInBounds_toArray, List.set_cons_zero, List.set_cons_succ]
            refine takeH (i := 37) (d := 155) (v := ?vs35) rfl (by kernel_rfl) (by kernel_rfl) (by kernel_rfl) (by kernel_rfl) (fun _ _ _ h => h) (Or.inl ⟨by kernel_rfl, ?hys35⟩) hHeld ?rests35
            case hys35 =>
              intro w hSw
              try dsimp only at hSw
              first | (go_simp; done) | (go_simp; with_reducible rfl)
            try simp only [Act.put, List.setIfInBounds_toArray, List.set_cons_zero, List.set_cons_succ]
            refine takeH (i := 38) (d := 156) (v := ?vs36) rfl (by kernel_rfl) (by kernel_rfl) (by kernel_rfl) (by kernel_rfl) (fun _ _ _ h => h) (Or.inl ⟨by kernel_rfl, ?hys36⟩) hHeld ?rests36
            case hys36 =>
              intro w hSw
              try dsimp only at hSw
              first | (go_simp; done) | (go_simp; with_reducible rfl)
            try simp only [Act.put, List.setIfInBounds_toArray, List.set_cons_zero, List.set_cons_succ]
            refine takeH (i := 39) (d := 157) (v := ?vs37) rfl (by kernel_rfl) (by kernel_rfl) (by kernel_rfl) (by kernel_rfl) (fun _ _ _ h => h) (Or.inl ⟨by kernel_rfl, ?hys37⟩) hHeld ?rests37
            case hys37 =>
              intro w hSw
              try dsimp only at hSw
              first | (go_simp; done) | (go_simp; with_reducible rfl)
            try simp only [Act.put, List.setIfInBounds_toArray, List.set_cons_zero, List.set_cons_succ]
            refine wpAnyH_done (by kernel_rfl) ?_ _
            go_wp2_with fail
            go_roundw
            case rel => exact ⟨k + 1, by go_num, by omega, HF2⟩
            case measure => simp [intOf]; omega
        · obtain rfl : k = ps.length := by omega
          go_wp2_with fail
          go_ret
          have hfin : Fr (fun _ => False) w wo2 := HPG.out.fr.trans HF.out (fun _ h _ => h)
          exact ⟨rfl, hfin.below (Nat.le_refl _) (fun _ h => h.elim)⟩
end Go.Proofs.Ytgomilodeaafdaa

/- pantrylaw25's plays where something is told. No condition but sizes. -/
import Derived.Test.YtleoeccjnchclaaGreatDoorZbj
import Derived.StillTailTactics
import Derived.Deep.AppendLies
import Derived.Laws.OwnMore
namespace Go.Proofs.YtleoeccjnchclaaGreatDoor
open Go.RowKit
theorem rowT_two (k text : ByteArray) (R : List Rw) : ∀ o ∈ R.flatMap (rowT k text), o.2.length ≤ 4 := fun o ho => by
  obtain ⟨r, _, ho⟩ := List.mem_flatMap.1 ho
  unfold rowT at ho
  split at ho
  · rw [List.mem_singleton.1 ho]; show 3 ≤ 4; decide
  · split at ho
    · rw [List.mem_singleton.1 ho]; exact Nat.le_refl 4
    · cases ho
set_option maxRecDepth 100000 in
set_option maxHeartbeats 4000000 in
theorem plays6_any {w : World} {B N h m : Nat} {S : Nat → Prop} (H : PairE w B S N h m) (hB : B ≤ w.heap.size) (hN : N ≤ 2199023255488) (who ses : Int) (k text : ByteArray) (big : Int) (hs : kI.ok ses) (hk : k.size ≤ 140737488355328) (hb : -9223372036854775808 ≤ big) :
    Calls Tryz.prog 6 #[.pointer (some ⟨h, 0, none⟩), .pointer (some ⟨m, 0, none⟩), .agg #[.int .i64 who, .int .i64 6, .int .i64 ses, .string k, .string text, .int .i64 big]] w (PlaysK w B S N h m) := by
  obtain ⟨F, G, fc, fp, v, R, H, hS, hl⟩ := H
  obtain ⟨w1, hw1⟩ : ∃ x, w.alloc (.cells #[.int .i64 who, .int .i64 6, .int .i64 ses, .string k, .string text, .int .i64 big] 28) = x := ⟨_, rfl⟩
  have hq1 : Fr (fun _ => False) w w1 := by rw [← hw1]; exact Fr.alloc _ _ _
  have hblk : w1.heap[w.heap.size]? = some (.cells #[.int .i64 who, .int .i64 6, .int .i64 ses, .string k, .string text, .int .i64 big] 28 (0, 0)) := by rw [← hw1]; exact alloc_at w _
  have H1 := H.quiet hq1
  have HB1 := Lib.hid hblk
  have y1 : w1.cell? ⟨w.heap.size, 1, none⟩ = some (.int .i64 6) := cell_of_blk hblk 1
  have y2 : w1.cell? ⟨w.heap.size, 2, none⟩ = some (.int .i64 ses) := cell_of_blk hblk 2
  have hnl : w.heap.size < w1.heap.size := (Array.getElem?_eq_some_iff.1 hblk).1
  have HNF : Hid (¬ F w.heap.size) := fun hF => by have := (H.a.lt _ hF).2; omega
  have HNG : Hid (¬ G w.heap.size) := fun hF => by have := (H.b.lt _ hF).2; omega
  have HH := Lib.hid H1
  have HS := Lib.hid hS
  have HL := Lib.hid hl
  have HQ1 := Lib.hid hq1
  have HW1 := Lib.hid hw1
  have HLN : Hid (R.length ≤ N) := H.len
  have hks : (nameS k big).size ≤ maxLen := by have := nameS_size k big; unfold maxLen; omega
  have HKS := Lib.hid hks
  unfold PlaysK
  clear H H1 hS hl hq1 hw1 hblk hks
  obtain ⟨Z, hZ, hz⟩ := rows_named HH.out.rw
  have htr := tell_rows HH.out.rw hZ hz HH.out.nc HH.out.np (nameS k big) text
  have hkz : (nameS k big).size ≤ 140737488361472 := by have := nameS_size k big; omega
  have HTR : Hid (∀ W, Fr (fun _ => False) w1 W → Calls Tryz.prog 18 #[.pointer (some ⟨m, 0, none⟩), .string (nameS k big), .string text] W (TellC W (R.flatMap (rowT (nameS k big) text)))) := fun W hW => refTell_any (HH.out.b.quiet hW) (by have := HLN.out; omega) (HH.out.rw.small HH.out.sm) (nameS k big) text hkz
  have HTH : Hid (∀ W, Fr (fun _ => False) w1 W → Calls Tryz.prog 19 #[.pointer (some ⟨h, 0, none⟩), .string (nameS k big), .string text] W (TellC W (R.flatMap (rowT (nameS k big) text)))) := fun W hW => by
    rw [← htr]
    exact tellT_any (HH.out.a.quiet hW) (by omega) HH.out.sm (nameS k big) text (by omega) hZ hz
  have HCL : Hid (∀ (i : Nat) (u : Value) (W : World), Fr (fun _ => False) w1 W → (#[.int .i64 who, .int .i64 6, .int .i64 ses, .string k, .string text, .int .i64 big] : Array Value)[i]? = some u → W.cell? ⟨w.heap.size, i, none⟩ = some u) := fun i u W hW hu => by
    rw [cell_of_blk (blk_later HB1.out hW (fun h => h)) i]; exact hu
  have hol : (R.flatMap (rowT (nameS k big) text)).length ≤ 2199023255488 := by have := rowT_len (nameS k big) text R; have := HLN.out; omega
  have HOS : Hid (∀ o ∈ R.flatMap (rowT (nameS k big) text), o.2.length ≤ 1048576) := fun o ho => by have := rowT_two (nameS k big) text R o ho; omega
  obtain ⟨O, hO⟩ : ∃ O, R.flatMap (rowT (nameS k big) text) = O := ⟨_, rfl⟩
  rw [hO] at HTR HTH hol HOS
  unfold TellC at HTR HTH
  clear hZ hz htr hkz hO
  go_enter Tryz.func6, Tryz.ntmps6
  go_upto_region 1 with (fail)
  rw [HW1.out]
  have hb0 := HB1.out
  have d0 : w1.cell? ⟨w.heap.size, 0, none⟩ = some (.int .i64 who) := cell_of_blk hb0 0
  have d1 : w1.cell? ⟨w.heap.size, 1, none⟩ = some (.int .i64 6) := cell_of_blk hb0 1
  have d2 : w1.cell? ⟨w.heap.size, 2, none⟩ = some (.int .i64 ses) := cell_of_blk hb0 2
  have d3 : w1.cell? ⟨w.heap.size, 3, none⟩ = some (.string k) := cell_of_blk hb0 3
  have d4 : w1.cell? ⟨w.heap.size, 4, none⟩ = some (.string text) := cell_of_blk hb0 4
  have d5 : w1.cell? ⟨w.heap.size, 5, none⟩ = some (.int .i64 big) := cell_of_blk hb0 5
  clear hb0
  go_upto_region 21 with (fail)
  go_cut [17] from 130 to 135 (fun t17 wx => ∃ (oa : Option Addr) (oc : Nat), t17 = .slice oa O.length oc ∧ Hid (Fr (fun _ => False) w1 wx) ∧ Hid (OutsAt wx w1.heap.size (.slice oa O.length oc) O))
  case first =>
    go_region_law (first
      | (go_simp; go_at_call 8; ((with_reducible refine (name25_any _ who 6 ses k text big hk hb).mono ?_); rintro e wn ⟨rfl, hfn⟩; have hST : Fr (fun _ => False) w1 wn := Fr.wide (by first | assumption | exact Fr.drew (fun _ => False) w1) hfn (fun _ h => h.elim); have s0 := HCL.out 0 _ _ (Fr.wide (Fr.refl (fun _ => False) w1) hST (fun _ h => h.elim)) rfl; have s1 := HCL.out 1 _ _ (Fr.wide (Fr.refl (fun _ => False) w1) hST (fun _ h => h.elim)) rfl; have s2 := HCL.out 2 _ _ (Fr.wide (Fr.refl (fun _ => False) w1) hST (fun _ h => h.elim)) rfl; have s3 := HCL.out 3 _ _ (Fr.wide (Fr.refl (fun _ => False) w1) hST (fun _ h => h.elim)) rfl; have s4 := HCL.out 4 _ _ (Fr.wide (Fr.refl (fun _ => False) w1) hST (fun _ h => h.elim)) rfl; have s5 := HCL.out 5 _ _ (Fr.wide (Fr.refl (fun _ => False) w1) hST (fun _ h => h.elim)) rfl; clear hfn; dsimp only))
      | (go_simp; go_at_call 18; ((with_reducible refine (HTR.out _ (Fr.wide (Fr.refl (fun _ => False) w1) hST (fun _ h => h.elim))).mono ?_); rintro e wt ⟨oa, oc, rfl, ho, hft, -⟩; have HOO : Hid (OutsAt wt w1.heap.size (.slice oa O.length oc) O) := ho.base hST.size; have HFT : Hid (Fr (fun _ => False) w1 wt) := Fr.wide hST hft (fun _ h => h.elim); clear ho hft; dsimp only)))
    all_goals
      go_wp2
      go_meet
      case rel => exact ⟨oa, oc, rfl, HFT, HOO⟩
  case rest =>
  obtain ⟨wa, wc', rfl, HQA, HWA⟩ := hcut
  obtain ⟨wA, rfl⟩ : ∃ x, x = wc := ⟨_, rfl⟩
  clear d0 d1 d2 d3 d4 d5
  have d0 := HCL.out 0 _ _ HQA.out rfl
  have d1 := HCL.out 1 _ _ HQA.out rfl
  have d2 := HCL.out 2 _ _ HQA.out rfl
  have d3 := HCL.out 3 _ _ HQA.out rfl
  have d4 := HCL.out 4 _ _ HQA.out rfl
  have d5 := HCL.out 5 _ _ HQA.out rfl
  go_upto_region 22 with (fail)
  go_cut [18] from 136 to 141 (fun t18 wx => ∃ (oa : Option Addr) (oc : Nat), t18 = .slice oa O.length oc ∧ Hid (Fr (fun _ => False) wA wx) ∧ Hid (OutsAt wx wA.heap.size (.slice oa O.length oc) O))
  case first =>
    go_region_law (first
      | (go_simp; go_at_call 8; ((with_reducible refine (name25_any _ who 6 ses k text big hk hb).mono ?_); rintro e wn ⟨rfl, hfn⟩; have hST : Fr (fun _ => False) wA wn := Fr.wide (by first | assumption | exact Fr.drew (fun _ => False) wA) hfn (fun _ h => h.elim); have s0 := HCL.out 0 _ _ (Fr.wide HQA.out hST (fun _ h => h.elim)) rfl; have s1 := HCL.out 1 _ _ (Fr.wide HQA.out hST (fun _ h => h.elim)) rfl; have s2 := HCL.out 2 _ _ (Fr.wide HQA.out hST (fun _ h => h.elim)) rfl; have s3 := HCL.out 3 _ _ (Fr.wide HQA.out hST (fun _ h => h.elim)) rfl; have s4 := HCL.out 4 _ _ (Fr.wide HQA.out hST (fun _ h => h.elim)) rfl; have s5 := HCL.out 5 _ _ (Fr.wide HQA.out hST (fun _ h => h.elim)) rfl; clear hfn; dsimp only))
      | (go_simp; go_at_call 19; ((with_reducible refine (HTH.out _ (Fr.wide HQA.out hST (fun _ h => h.elim))).mono ?_); rintro e wt ⟨oa, oc, rfl, ho, hft, -⟩; have HOO : Hid (OutsAt wt wA.heap.size (.slice oa O.length oc) O) := ho.base hST.size; have HFT : Hid (Fr (fun _ => False) wA wt) := Fr.wide hST hft (fun _ h => h.elim); clear ho hft; dsimp only)))
    all_goals
      go_wp2
      go_meet
      case rel => exact ⟨oa, oc, rfl, HFT, HOO⟩
  case rest =>
  obtain ⟨aa, ac, rfl, HAB, HAO⟩ := hcut
  obtain ⟨wB, rfl⟩ : ∃ x, x = wc := ⟨_, rfl⟩
  have HQB := Lib.hid (HQA.out.wide HAB.out (fun _ h => h.elim))
  clear d0 d1 d2 d3 d4 d5
  have d0 := HCL.out 0 _ _ HQB.out rfl
  have d1 := HCL.out 1 _ _ HQB.out rfl
  have d2 := HCL.out 2 _ _ HQB.out rfl
  have d3 := HCL.out 3 _ _ HQB.out rfl
  have d4 := HCL.out 4 _ _ HQB.out rfl
  have d5 := HCL.out 5 _ _ HQB.out rfl
  go_upto_region 23 with (fail)
  go_cut [19] from 142 to 147 (fun t19 wx => ∃ (oa : Option Addr) (oc : Nat), t19 = .slice oa O.length oc ∧ Hid (Fr (fun _ => False) wB wx) ∧ Hid (OutsAt wx wB.heap.size (.slice oa O.length oc) O))
  case first =>
    go_region_law (first
      | (go_simp; go_at_call 8; ((with_reducible refine (name25_any _ who 6 ses k text big hk hb).mono ?_); rintro e wn ⟨rfl, hfn⟩; have hST : Fr (fun _ => False) wB wn := Fr.wide (by first | assumption | exact Fr.drew (fun _ => False) wB) hfn (fun _ h => h.elim); have s0 := HCL.out 0 _ _ (Fr.wide HQB.out hST (fun _ h => h.elim)) rfl; have s1 := HCL.out 1 _ _ (Fr.wide HQB.out hST (fun _ h => h.elim)) rfl; have s2 := HCL.out 2 _ _ (Fr.wide HQB.out hST (fun _ h => h.elim)) rfl; have s3 := HCL.out 3 _ _ (Fr.wide HQB.out hST (fun _ h => h.elim)) rfl; have s4 := HCL.out 4 _ _ (Fr.wide HQB.out hST (fun _ h => h.elim)) rfl; have s5 := HCL.out 5 _ _ (Fr.wide HQB.out hST (fun _ h => h.elim)) rfl; clear hfn; dsimp only))
      | (go_simp; go_at_call 19; ((with_reducible refine (HTH.out _ (Fr.wide HQB.out hST (fun _ h => h.elim))).mono ?_); rintro e wt ⟨oa, oc, rfl, ho, hft, -⟩; have HOO : Hid (OutsAt wt wB.heap.size (.slice oa O.length oc) O) := ho.base hST.size; have HFT : Hid (Fr (fun _ => False) wB wt) := Fr.wide hST hft (fun _ h => h.elim); clear ho hft; dsimp only)))
    all_goals
      go_wp2
      go_meet
      case rel => exact ⟨oa, oc, rfl, HFT, HOO⟩
  case rest =>
  obtain ⟨ba, bc, rfl, HBC, HBO⟩ := hcut
  obtain ⟨wC, rfl⟩ : ∃ x, x = wc := ⟨_, rfl⟩
  have HQC := Lib.hid (HQB.out.wide HBC.out (fun _ h => h.elim))
  clear d0 d1 d2 d3 d4 d5
  have HWC := Lib.hid (HWA.out.quiet (HAB.out.wide HBC.out (fun _ h => h.elim)))
  have HAC := Lib.hid (HAO.out.quiet HBC.out)
  have HS1 := Lib.hid (sameOuts_any wC _ _ aa wa ac wc' O HAC.out HWC.out HOS.out (by omega))
  clear HTR HTH
  go_wp2_with fail
  refine HS1.out.mono ?_
  rintro e wD ⟨rfl, hfD⟩
  have HFD := Lib.hid hfD
  have HS2 := Lib.hid (sameOuts_any wD _ _ ba wa bc wc' O (HBO.out.quiet hfD) (HWC.out.quiet hfD) HOS.out (by omega))
  clear hfD
  go_wp2_with fail
  refine HS2.out.mono ?_
  rintro e wE ⟨rfl, hfE⟩
  have HFE := Lib.hid (HFD.out.wide hfE (fun _ h => h.elim))
  clear hfE
  go_wp2_with fail
  have HSP : Hid (0 < O.length → ∃ g, aa = some ⟨g, 0, none⟩ ∧ SpA wE wA.heap.size wB.heap.size g ac O.length 0) := fun hn => by
    obtain ⟨g, e, h⟩ := spA_of HAO.out HOS.out hn
    have hq : Fr (fun _ => False) wB wE := HBC.out.wide HFE.out (fun _ h => h.elim)
    obtain ⟨⟨xs, hx⟩, h2, h3⟩ := h
    exact ⟨g, e, ⟨xs, ow_frT hx hq (fun _ _ h => h)⟩, h2, fun j h4 h5 => by
      obtain ⟨u, q, ys, k1, k2, k3, k4⟩ := h3 j h4 h5
      exact ⟨u, q, ys, hq.cell k1 (fun h => h), ow_frT k2 hq (fun _ _ h => h), k3, k4⟩⟩
  obtain ⟨i0, hi, hz0, hz1, hz2⟩ := info_parts info_reply
  have HI := Lib.hid hi
  have HZ0 := Lib.hid hz0
  have HZ1 := Lib.hid hz1
  have HZ2 := Lib.hid hz2
  have HWE : Hid (wA.heap.size ≤ wE.heap.size) := Nat.le_trans HAB.out.size (Nat.le_trans HBC.out.size HFE.out.size)
  clear hi hz0 hz1 hz2
  go_loopw [160] (fun i wr => ∃ j : Nat, i = .int .i64 j ∧ j ≤ O.length ∧ Hid (0 < O.length → ∃ g, aa = some ⟨g, 0, none⟩ ∧ SpA wr wA.heap.size wB.heap.size g ac O.length j) ∧ Hid (Fr (fun i => wA.heap.size ≤ i ∧ i < wB.heap.size) wE wr)) (fun i _ => O.length - (intOf i).toNat)
  case atStart => exact ⟨0, rfl, by omega, HSP, Fr.refl _ _⟩
  case round =>
    obtain ⟨i, rfl, hi, HSI, HF⟩ := hrel
    obtain ⟨wo, rfl⟩ : ∃ wo, wo = wr := ⟨_, rfl⟩
    by_cases hlt : i < O.length
    · obtain ⟨g, hga, hsp⟩ := HSI.out (by omega)
      subst hga
      obtain ⟨u, q, ys, x4, hru, hub, hq1⟩ := hsp.each i (Nat.le_refl _) hlt
      obtain ⟨ua, uc, rfl⟩ := ow_sliceN hru
      have HSP1 : Hid (SpA wo wA.heap.size wB.heap.size g ac O.length (i + 1)) := hsp.kept (SizeKept.refl _ _) (SizeKept.refl _ _) (Nat.le_succ _) (fun _ _ _ => rfl)
      have HRU : Hid (∃ ys, wo.ownsRow wA.heap.size 49 4 (.slice ua q uc) q ys) := ⟨ys, hru⟩
      have HUB := Lib.hid hub
      have x4' : wo.cell? ⟨g, i * 5 + 1 + 3, none⟩ = some (.slice ua q uc) := x4
      have HX4 := Lib.hid x4
      have hGA : wA.heap.size ≤ g := by
        obtain ⟨xs, hx⟩ := hsp.row
        exact (ow_lt hx g rfl).1
      have hGU := hsp.lt
      have c0 : (0 : Int) ≤ (i : Int) := by omega
      have c1 : (i : Int) < (O.length : Int) := by omega
      have HGA := Lib.hid hGA
      have HGU := Lib.hid hGU
      clear hsp hru hub x4 HSI HSP hGA hGU
      go_wp2_with fail
      go_loopw [170] (fun t wr => ∃ j : Nat, t = .int .i64 j ∧ j ≤ q ∧ Hid (SpA wr wA.heap.size wB.heap.size g ac O.length (i + 1)) ∧ Hid (∃ ys, wr.ownsRow wA.heap.size 49 4 (.slice ua q uc) q ys) ∧ Hid (wr.cell? ⟨g, i * 5 + 4, none⟩ = some (.slice ua q uc)) ∧ Hid (Fr (fun i => wA.heap.size ≤ i ∧ i < wB.heap.size) wE wr)) (fun t _ => q - (intOf t).toNat)
      case atStart => exact ⟨0, rfl, by omega, HSP1, HRU, HX4, HF⟩
      case round =>
        obtain ⟨j, rfl, hj, HS2, HR2, HC2, HF2⟩ := hrel
        obtain ⟨wp, rfl⟩ : ∃ wo, wo = wr := ⟨_, rfl⟩
        have z4 : wp.cell? ⟨g, i * 5 + 1 + 3, none⟩ = some (.slice ua q uc) := HC2.out
        obtain ⟨zs, hzs⟩ := HR2.out
        have HZS := Lib.hid hzs
        clear hzs x4'
        by_cases hltj : j < q
        · obtain ⟨gu, cap, e, -, -⟩ := HZS.out.form (by omega)
          cases e
          have hlen := HZS.out.1
          obtain ⟨y, hy⟩ : ∃ y, zs[j * 4 + 1]? = some y := ⟨_, List.getElem?_eq_getElem (by omega)⟩
          have hc : wp.cell? ⟨gu, j * 4 + 1, none⟩ = some y := (HZS.out.cellAt (j * 4 + 1) (by omega)).trans hy
          have hz := HZS.out.frozenAt (j * 4 + 1)
          have hgu : gu ≠ g := fun e => by
            obtain ⟨xs, hx⟩ := HS2.out.row
            exact rows_apart hx HZS.out (by decide) g rfl (by rw [← e]; rfl)
          have HT : Hid (Tr g gu i wp (wp.setCell ⟨gu, j * 4 + 1, none⟩ (.string ⟨#[115, 112, 111, 105, 108, 116]⟩))) := (Tr.refl g gu i wp).set8 hgu _ _
          have HUL : Hid (wA.heap.size ≤ gu ∧ gu < wB.heap.size) := ⟨(ow_lt HZS.out gu rfl).1, HUB.out gu rfl⟩
          have HC3 : Hid ((wp.setCell ⟨gu, j * 4 + 1, none⟩ (.string ⟨#[115, 112, 111, 105, 108, 116]⟩)).cell? ⟨g, i * 5 + 4, none⟩ = some (.slice (some ⟨gu, 0, none⟩) q uc)) := (World.cell?_setCell_other wp ⟨gu, j * 4 + 1, none⟩ ⟨g, i * 5 + 4, none⟩ _ (fun e => hgu (congrArg (fun a : Addr => a.block) e))).trans HC2.out
          have b0 : (0 : Int) ≤ (j : Int) := by omega
          have b1 : (j : Int) < (q : Int) := by omega
          clear hlen hy hgu
          go_wp2_with fail
          go_roundw
          case rel => exact ⟨j + 1, by go_num, by omega, HS2.out.kept (HT.out.kept _) (HT.out.kept _) (Nat.le_refl _) (fun y h1 h2 => HT.out.hi _ (by omega)), row_kept HZS.out (HT.out.kept _), HC3, HF2.out.wide (Fr.setCell _ _ _) (fun b hb => .inl (by rw [show b = gu from hb]; exact HUL.out))⟩
          case measure => simp [intOf]; omega
        · obtain rfl : j = q := by omega
          have hTF : Fr (fun _ => False) wp (wp.alloc (.cells #[.int .i64 0, .string ⟨#[]⟩, .int .i64 0, .slice none 0 0] 49)).drew := (Fr.alloc (fun _ => False) wp (.cells #[.int .i64 0, .string ⟨#[]⟩, .int .i64 0, .slice none 0 0] 49)).thenDrew
          have HTF := Lib.hid hTF
          have HZA := Lib.hid (ow_frT HZS.out hTF (fun _ _ h => h))
          have HSZ : Hid (wA.heap.size ≤ (wp.alloc (.cells #[.int .i64 0, .string ⟨#[]⟩, .int .i64 0, .slice none 0 0] 49)).drew.heap.size) := Nat.le_trans (Nat.le_trans HWE.out HF2.out.size) hTF.size
          have HLC : Hid (∀ (y : Nat) (u : Value), ([.int .i64 0, .string ⟨#[]⟩, .int .i64 0, .slice none 0 0])[y]? = some u → (wp.alloc (.cells #[.int .i64 0, .string ⟨#[]⟩, .int .i64 0, .slice none 0 0] 49)).drew.cell? ((⟨wp.heap.size, 0, none⟩ : Addr).add y) = some u) := fun y u hu => by
            have h0 := (RdC.of_owns (World.ownsRow_lit (base := 0) (e := 49) (size := 4) wp #[.int .i64 0, .string ⟨#[]⟩, .int .i64 0, .slice none 0 0] 1 (Nat.zero_le _) (by decide) rfl)).fr (Fr.drew (fun _ => False) _) (fun _ _ h => h)
            obtain ⟨_, a, c, e, _, _, _, h5⟩ := h0
            cases e
            exact h5 _ rfl y u hu
          obtain ⟨xs, hxs⟩ := HS2.out.row
          have HXS := Lib.hid hxs
          have HFG : Hid (Fr (fun i => wA.heap.size ≤ i ∧ i < wB.heap.size) wE (wp.alloc (.cells #[.int .i64 0, .string ⟨#[]⟩, .int .i64 0, .slice none 0 0] 49)).drew) := HF2.out.wide hTF (fun _ h => h.elim)
          have z5 : (wp.alloc (.cells #[.int .i64 0, .string ⟨#[]⟩, .int .i64 0, .slice none 0 0] 49)).drew.cell? ⟨g, i * 5 + 1 + 3, none⟩ = some (.slice ua j uc) := hTF.cell HC2.out (fun h => h)
          have hgl : g < wp.heap.size := by have := (ow_lt hxs g rfl).2; exact this
          have hgn : ¬ g = wp.heap.size := by omega
          clear HR2 hTF hxs
          go_upto_region 34 with (fail)
          go_cut [] from 183 to 196 (fun wx => Hid (SpA wx wA.heap.size wB.heap.size g ac O.length (i + 1)) ∧ Hid (Fr (fun i => wA.heap.size ≤ i ∧ i < wB.heap.size) wE wx))
          case first =>
            go_region_law (first
              | (refine step_append3 (by rfl) (.tmp 188) (.tmp 191) 47 (by rfl) wA.heap.size 49 i0 (.agg #[.int .i64 0, .string ⟨#[]⟩, .int .i64 0, .slice none 0 0]) 4 56 Tryz.underlying47 HI.out HZ0.out HZ1.out HZ2.out rfl (by decide) (.slice ua j uc) j zs (by rfl) HZA.out ⟨wp.heap.size, 0, none⟩ 1 1 [.int .i64 0, .string ⟨#[]⟩, .int .i64 0, .slice none 0 0] (by rfl) rfl HLC.out (by simp [Value.oneCell']) (by unfold maxLen; omega) (by omega) HSZ.out ?_; intro v8 w8 hown hgrow hlie hkept; obtain ⟨a8, c8, rfl⟩ := ow_sliceN hown; obtain ⟨g8, cap8, e8, -, -⟩ := hown.form (by omega); cases e8; have HO8 := Lib.hid hown; have HG8 := Lib.hid hgrow; have HL8 := Lib.hid hlie; have HK8 := Lib.hid hkept; have hx8 := ow_frT (ow_frT HXS.out HTF.out (fun _ _ h => h)) (Fr.of_grownBy hgrow) (fun b h1 h2 => rows_apart (ow_frT HXS.out HTF.out (fun _ _ h => h)) HZA.out (by decide) b h1 h2); have HX8 := Lib.hid hx8; have h8g : ¬ g8 = g := fun e => rows_apart hx8 hown (by decide) g rfl (by rw [← e]; rfl); have hg8 : ¬ g = g8 := fun e => h8g e.symm; have f4 := hx8.frozenAt (i * 5 + 1 + 3); have z8 : w8.cell? ⟨g, i * 5 + 1 + 3, none⟩ = some (.slice ua j uc) := (Fr.of_grownBy hgrow).cell z5 (fun e => rows_apart (ow_frT HXS.out HTF.out (fun _ _ h => h)) HZA.out (by decide) g rfl e); obtain ⟨k0, k1, k2, k3⟩ := newcells hown HZA.out.1; have f0 := hown.frozenAt (j * 4); have f1 := hown.frozenAt (j * 4 + 1); have f2 := hown.frozenAt (j * 4 + 2); have f3 := hown.frozenAt (j * 4 + 3); have b2 : (0 : Int) ≤ (j : Int) := (by omega); have b3 : (j : Int) < (j : Int) + 1 := (by omega); have HSP8 := Lib.hid (spa_append HS2.out HZA.out hgrow hkept); have HFR8 : Hid (Fr (fun i => wA.heap.size ≤ i ∧ i < wB.heap.size) wE w8) := HFG.out.wide (Fr.of_grownBy hgrow) (fun b hb => .inl ⟨(ow_lt HZA.out b hb).1, HUB.out b hb⟩); have HG8L : Hid ((wA.heap.size ≤ g8 ∧ g8 < wB.heap.size) ∨ wE.heap.size ≤ g8) := (hlie g8 rfl).elim (fun hb => .inl ⟨(ow_lt HZA.out g8 hb).1, HUB.out g8 hb⟩) (fun hb => .inr (Nat.le_trans HFG.out.size hb)); clear hown hgrow hlie hkept hx8))
            all_goals
              go_wp2
              go_meet
              case rel =>
                refine tr_fin HSP8.out HFR8.out HG8L.out ⟨HGA.out, HGU.out⟩ ?_
                repeat first | exact Tr.refl _ _ _ _ | refine Tr.set8 ?_ h8g _ _ | refine Tr.setg ?_ _ _ (by omega)
          case rest =>
          obtain ⟨HS5, HF5⟩ := hcut
          obtain ⟨xs5, hxs5⟩ := HS5.out.row
          obtain ⟨y5, hy5⟩ : ∃ y, xs5[i * 5]? = some y := ⟨_, List.getElem?_eq_getElem (by have := hxs5.1; omega)⟩
          have hc5 : wc.cell? ⟨g, i * 5, none⟩ = some y5 := (hxs5.cellAt (i * 5) (by omega)).trans hy5
          have hz5 := hxs5.frozenAt (i * 5)
          have HT5 : Hid (Tr g g i wc (wc.setCell ⟨g, i * 5, none⟩ (.int .i64 (-9)))) := (Tr.refl g g i wc).setg _ _ (by omega)
          clear hxs5 hy5 z4 z5
          go_wp2_with fail
          go_roundw
          case rel => exact ⟨i + 1, by go_num, by omega, fun _ => ⟨g, rfl, HS5.out.tr HT5.out⟩, HF5.out.wide HT5.out.fr (fun b hb => .inl (by have : b = g := hb.elim id id; rw [this]; exact ⟨HGA.out, HGU.out⟩))⟩
          case measure => simp [intOf]; omega
    · have hqE : Fr (fun _ => False) wA wE := HAB.out.wide (HBC.out.wide HFE.out (fun _ h => h.elim)) (fun _ h => h.elim)
      have hq1E : Fr (fun _ => False) w1 wE := HQA.out.wide hqE (fun _ h => h.elim)
      have HS3 := Lib.hid (sameOuts_any wo _ _ ba wa bc wc' O ((HBO.out.quiet HFE.out).hi HF.out (fun g hg => hg.2)) (HWA.out.lo hqE HF.out (fun g hg => hg.1)) HOS.out (by omega))
      have hlo : ∀ g, (wA.heap.size ≤ g ∧ g < wB.heap.size) → w1.heap.size ≤ g := fun g hg => Nat.le_trans HQA.out.size hg.1
      have HG : Hid (∀ W, Fr (fun _ => False) wo W → Fr S w W ∧ PairE W B (Grew S w W) N h m) := fun W hW => by
        have H8 := HH.out.quiet hq1E
        have HX : PairX W B F G N h m fc fp v R := PairX.quiet ⟨H8.a.other HF.out (fun i hi hg => by have := hlo i hg; have := (HH.out.a.lt i hi).2; omega), H8.b.other HF.out (fun i hi hg => by have := hlo i hg; have := (HH.out.b.lt i hi).2; omega), H8.ap, H8.sm, H8.rw, H8.len⟩ hW
        have hF : Fr S w W := ((HQ1.out.wide hq1E (fun _ h => h.elim)).mono (fun _ h _ => h.elim)).wide (HF.out.wide hW (fun _ h => h.elim)) (fun i hi => .inr (by have := hlo i hi; have := HQ1.out.size; omega))
        exact ⟨hF, F, G, fc, fp, v, R, ⟨HX.a, HX.b, HX.ap, HX.sm, HX.rw, HLN.out⟩, fun i hi => .inl (HS.out i hi), grew_lt HL.out hB hF.size⟩
      clear hqE hq1E hlo
      go_wp2_with fail
      refine HS3.out.mono ?_
      rintro e wZ ⟨rfl, hfZ⟩
      have HGZ := Lib.hid (HG.out wZ hfZ)
      clear hfZ
      go_wp2_with fail
      go_ret
      exact ⟨rfl, HGZ.out⟩
end Go.Proofs.YtleoeccjnchclaaGreatDoor

/- pantrylaw25's plays at Listen and ListenLike. No condition but sizes. -/
import Derived.Test.YtleoeccjnchclaaGreatDoorZbd
import Derived.StillTailTactics
namespace Go.Proofs.YtleoeccjnchclaaGreatDoor
open Go.RowKit
set_option maxRecDepth 100000 in
set_option maxHeartbeats 4000000 in
theorem plays0_any {w : World} {B N h m : Nat} {S : Nat → Prop} (H : PairE w B S N h m) (hB : B ≤ w.heap.size) (hN : N < 2199023255488) (who ses : Int) (k text : ByteArray) (big : Int) (hs : kI.ok ses) (hk : k.size ≤ 140737488355328) (hb : -9223372036854775808 ≤ big) :
    Calls Tryz.prog 6 #[.pointer (some ⟨h, 0, none⟩), .pointer (some ⟨m, 0, none⟩), .agg #[.int .i64 who, .int .i64 0, .int .i64 ses, .string k, .string text, .int .i64 big]] w (PlaysC w B S N h m) := by
  obtain ⟨F, G, fc, fp, v, R, H, hS, hl⟩ := H
  obtain ⟨w1, hw1⟩ : ∃ x, w.alloc (.cells #[.int .i64 who, .int .i64 0, .int .i64 ses, .string k, .string text, .int .i64 big] 28) = x := ⟨_, rfl⟩
  have hq1 : Fr (fun _ => False) w w1 := by rw [← hw1]; exact Fr.alloc _ _ _
  have hblk : w1.heap[w.heap.size]? = some (.cells #[.int .i64 who, .int .i64 0, .int .i64 ses, .string k, .string text, .int .i64 big] 28 (0, 0)) := by rw [← hw1]; exact alloc_at w _
  have H1 := H.quiet hq1
  have HB1 := Lib.hid hblk
  have y1 : w1.cell? ⟨w.heap.size, 1, none⟩ = some (.int .i64 0) := cell_of_blk hblk 1
  have y2 : w1.cell? ⟨w.heap.size, 2, none⟩ = some (.int .i64 ses) := cell_of_blk hblk 2
  have hnl : w.heap.size < w1.heap.size := (Array.getElem?_eq_some_iff.1 hblk).1
  have HNF : Hid (¬ F w.heap.size) := fun hF => by have := (H.a.lt _ hF).2; omega
  have HNG : Hid (¬ G w.heap.size) := fun hF => by have := (H.b.lt _ hF).2; omega
  have HH := Lib.hid H1
  have HS := Lib.hid hS
  have HL := Lib.hid hl
  have HQ1 := Lib.hid hq1
  have HW1 := Lib.hid hw1
  have HLN : Hid (R.length ≤ N) := H.len
  have hks : (nameS k big).size ≤ maxLen := by have := nameS_size k big; unfold maxLen; omega
  have HKS := Lib.hid hks
  unfold PlaysC
  clear H H1 hS hl hq1 hw1 hblk hks
  obtain ⟨e1, e2, e3, e4⟩ := lsC_eq HH.out.rw HH.out.nc HH.out.np ses (nameS k big)
  have HE12 : Hid ((refLs R (ses, false, nameS k big)).1 = (lsRes fc fp ses (nameS k big)).1 ∧ (refLs R (ses, false, nameS k big)).2.1 = (lsRes fc fp ses (nameS k big)).2.1) := ⟨e1, e2⟩
  have HE3 := Lib.hid e3
  have HE4 := Lib.hid e4
  obtain ⟨rn, hrn⟩ : ∃ x, (lsRes fc fp ses (nameS k big)).1 = x := ⟨_, rfl⟩
  obtain ⟨rc, hrc⟩ : ∃ x, (lsRes fc fp ses (nameS k big)).2.1 = x := ⟨_, rfl⟩
  have HRN := Lib.hid hrn
  have HRC := Lib.hid hrc
  clear e1 e2 e3 e4 hrn hrc
  go_enter Tryz.func6, Tryz.ntmps6
  go_upto_region 1 with (fail)
  rw [HW1.out]
  have hb0 := HB1.out
  have d0 : w1.cell? ⟨w.heap.size, 0, none⟩ = some (.int .i64 who) := cell_of_blk hb0 0
  have d1 : w1.cell? ⟨w.heap.size, 1, none⟩ = some (.int .i64 0) := cell_of_blk hb0 1
  have d2 : w1.cell? ⟨w.heap.size, 2, none⟩ = some (.int .i64 ses) := cell_of_blk hb0 2
  have d3 : w1.cell? ⟨w.heap.size, 3, none⟩ = some (.string k) := cell_of_blk hb0 3
  have d4 : w1.cell? ⟨w.heap.size, 4, none⟩ = some (.string text) := cell_of_blk hb0 4
  have d5 : w1.cell? ⟨w.heap.size, 5, none⟩ = some (.int .i64 big) := cell_of_blk hb0 5
  clear hb0
  go_upto_region 4 with (fail)
  go_cut [7, 8] from 32 to 40 (fun t7 t8 wx => t7 = .int .i64 rn ∧ t8 = .int .i64 rc ∧ ∃ (wb : World) (v2 : Value), Hid (Fr (fun _ => False) w1 wb) ∧ Hid (Fr G wb wx) ∧ Hid (RefH wx B (Grew G wb wx) m v2 (refLs R (ses, false, nameS k big)).2.2) ∧ Hid (wx.heap[w.heap.size]? = some (.cells #[.int .i64 who, .int .i64 0, .int .i64 ses, .string k, .string text, .int .i64 big] 28 (0, 0))))
  case first =>
    go_region_law (first
      | (go_simp; go_at_call 8; ((with_reducible refine (name25_any _ who 0 ses k text big hk hb).mono ?_); rintro e wn ⟨rfl, hfn⟩; have hqwn : Fr (fun _ => False) w1 wn := (Fr.drew (fun _ => False) w1).wide hfn (fun _ h => h.elim); have HQwn := Lib.hid hqwn; have HBwn := Lib.hid (blk_later HB1.out hqwn (fun h => h)); have s2 : wn.cell? ⟨w.heap.size, 2, none⟩ = some (.int .i64 ses) := cell_of_blk HBwn.out 2; clear hfn hqwn; have hcall := refListen_any (HH.out.quiet HQwn.out).b (Nat.le_trans hB (Nat.le_trans HQ1.out.size HQwn.out.size)) (by have := HLN.out; omega) ses (nameS k big); rw [HE12.out.1, HE12.out.2, HRN.out, HRC.out] at hcall; have HCALL := Lib.hid hcall; clear hcall; dsimp only))
      | (go_simp; go_at_call 7; ((with_reducible refine HCALL.out.mono ?_); rintro e wc ⟨rfl, hfc, v2, hRc⟩; have HFC := Lib.hid hfc; have HRF := Lib.hid hRc; have HBC := Lib.hid (blk_later HBwn.out hfc HNG.out); clear hfc hRc; dsimp only)))
    all_goals
      go_wp2
      go_meet
      case rel => exact ⟨rfl, rfl, wn, v2, HQwn, HFC, HRF, HBC⟩
  case rest =>
  clear d0 d1 d2 d3 d4 d5
  obtain ⟨rfl, rfl, wb, v2, HQB, HFC, HRF, HBC⟩ := hcut
  have hb0 := HBC.out
  have d0 : wc.cell? ⟨w.heap.size, 0, none⟩ = some (.int .i64 who) := cell_of_blk hb0 0
  have d1 : wc.cell? ⟨w.heap.size, 1, none⟩ = some (.int .i64 0) := cell_of_blk hb0 1
  have d2 : wc.cell? ⟨w.heap.size, 2, none⟩ = some (.int .i64 ses) := cell_of_blk hb0 2
  have d3 : wc.cell? ⟨w.heap.size, 3, none⟩ = some (.string k) := cell_of_blk hb0 3
  have d4 : wc.cell? ⟨w.heap.size, 4, none⟩ = some (.string text) := cell_of_blk hb0 4
  have d5 : wc.cell? ⟨w.heap.size, 5, none⟩ = some (.int .i64 big) := cell_of_blk hb0 5
  clear hb0
  go_upto_region 5 with (fail)
  go_cut [9, 10] from 41 to 49 (fun t9 t10 wx => t9 = .int .i64 rn ∧ t10 = .int .i64 rc ∧ Hid (Fr S w wx ∧ PairE wx B (Grew S w wx) (N + 1) h m))
  case first =>
    go_region_law (first
      | (go_simp; go_at_call 8; ((with_reducible refine (name25_any _ who 0 ses k text big hk hb).mono ?_); rintro e wn ⟨rfl, hfn⟩; have hqwn : Fr (fun _ => False) wc wn := (Fr.drew (fun _ => False) wc).wide hfn (fun _ h => h.elim); have HQwn := Lib.hid hqwn; have HBwn := Lib.hid (blk_later HBC.out hqwn (fun h => h)); have s2 : wn.cell? ⟨w.heap.size, 2, none⟩ = some (.int .i64 ses) := cell_of_blk HBwn.out 2; clear hfn hqwn; have hcall := hubListen_any (((HH.out.quiet HQB.out).a.other HFC.out (fun i hi hg => HH.out.ap i hi hg)).quiet HQwn.out) (Nat.le_trans hB (Nat.le_trans HQ1.out.size (Nat.le_trans HQB.out.size (Nat.le_trans HFC.out.size HQwn.out.size)))) (by omega) ses (nameS k big) hs HKS.out; rw [HRN.out, HRC.out] at hcall; have HCALL := Lib.hid hcall; clear hcall; dsimp only))
      | (go_simp; go_at_call 9; ((with_reducible refine HCALL.out.mono ?_); rintro e wf ⟨rfl, hff, hTf⟩; have HG : Hid (Fr S w wf ∧ PairE wf B (Grew S w wf) (N + 1) h m) := (fun (p : PairX wf B (Grew F wn wf) (Grew G wb wc) (N + 1) h m (lsRes fc fp ses (nameS k big)).2.2 fp v2 (refLs R (ses, false, nameS k big)).2.2 ∧ Fr (fun i => F i ∨ G i) wb wf) => pair_fin HS.out HL.out hB (HQ1.out.wide HQB.out (fun _ h => h.elim)) p.1 p.2 (grew_in HFC.out.size HQwn.out.size) (Fr.refl _ _)) ((HH.out.quiet HQB.out).step HFC.out HRF.out HQwn.out hff hTf HE3.out (does_small 0 ses (nameS k big) (fc, fp) HH.out.sm) (by have := HE4.out; have := HLN.out; omega)); clear hff hTf; dsimp only)))
    all_goals
      go_wp2
      go_meet
      case rel => exact ⟨rfl, rfl, HG⟩
  case rest =>
  clear d0 d1 d2 d3 d4 d5
  obtain ⟨rfl, rfl, HG⟩ := hcut
  go_wp2
  go_ret
  exact ⟨by simp, HG.out⟩
set_option maxRecDepth 100000 in
set_option maxHeartbeats 4000000 in
theorem plays1_any {w : World} {B N h m : Nat} {S : Nat → Prop} (H : PairE w B S N h m) (hB : B ≤ w.heap.size) (hN : N < 2199023255488) (who ses : Int) (k text : ByteArray) (big : Int) (hs : kI.ok ses) (hk : k.size ≤ 140737488355328) (hb : -9223372036854775808 ≤ big) :
    Calls Tryz.prog 6 #[.pointer (some ⟨h, 0, none⟩), .pointer (some ⟨m, 0, none⟩), .agg #[.int .i64 who, .int .i64 1, .int .i64 ses, .string k, .string text, .int .i64 big]] w (PlaysC w B S N h m) := by
  obtain ⟨F, G, fc, fp, v, R, H, hS, hl⟩ := H
  obtain ⟨w1, hw1⟩ : ∃ x, w.alloc (.cells #[.int .i64 who, .int .i64 1, .int .i64 ses, .string k, .string text, .int .i64 big] 28) = x := ⟨_, rfl⟩
  have hq1 : Fr (fun _ => False) w w1 := by rw [← hw1]; exact Fr.alloc _ _ _
  have hblk : w1.heap[w.heap.size]? = some (.cells #[.int .i64 who, .int .i64 1, .int .i64 ses, .string k, .string text, .int .i64 big] 28 (0, 0)) := by rw [← hw1]; exact alloc_at w _
  have H1 := H.quiet hq1
  have HB1 := Lib.hid hblk
  have y1 : w1.cell? ⟨w.heap.size, 1, none⟩ = some (.int .i64 1) := cell_of_blk hblk 1
  have y2 : w1.cell? ⟨w.heap.size, 2, none⟩ = some (.int .i64 ses) := cell_of_blk hblk 2
  have hnl : w.heap.size < w1.heap.size := (Array.getElem?_eq_some_iff.1 hblk).1
  have HNF : Hid (¬ F w.heap.size) := fun hF => by have := (H.a.lt _ hF).2; omega
  have HNG : Hid (¬ G w.heap.size) := fun hF => by have := (H.b.lt _ hF).2; omega
  have HH := Lib.hid H1
  have HS := Lib.hid hS
  have HL := Lib.hid hl
  have HQ1 := Lib.hid hq1
  have HW1 := Lib.hid hw1
  have HLN : Hid (R.length ≤ N) := H.len
  have hks : (nameS k big).size ≤ maxLen := by have := nameS_size k big; unfold maxLen; omega
  have HKS := Lib.hid hks
  unfold PlaysC
  clear H H1 hS hl hq1 hw1 hblk hks
  obtain ⟨e1, e2, e3, e4⟩ := lsC_eq HH.out.rw HH.out.nc HH.out.np ses (nameS k big)
  have HE12 : Hid ((refLs R (ses, false, nameS k big)).1 = (lsRes fc fp ses (nameS k big)).1 ∧ (refLs R (ses, false, nameS k big)).2.1 = (lsRes fc fp ses (nameS k big)).2.1) := ⟨e1, e2⟩
  have HE3 := Lib.hid e3
  have HE4 := Lib.hid e4
  obtain ⟨rn, hrn⟩ : ∃ x, (lsRes fc fp ses (nameS k big)).1 = x := ⟨_, rfl⟩
  obtain ⟨rc, hrc⟩ : ∃ x, (lsRes fc fp ses (nameS k big)).2.1 = x := ⟨_, rfl⟩
  have HRN := Lib.hid hrn
  have HRC := Lib.hid hrc
  clear e1 e2 e3 e4 hrn hrc
  go_enter Tryz.func6, Tryz.ntmps6
  go_upto_region 1 with (fail)
  rw [HW1.out]
  have hb0 := HB1.out
  have d0 : w1.cell? ⟨w.heap.size, 0, none⟩ = some (.int .i64 who) := cell_of_blk hb0 0
  have d1 : w1.cell? ⟨w.heap.size, 1, none⟩ = some (.int .i64 1) := cell_of_blk hb0 1
  have d2 : w1.cell? ⟨w.heap.size, 2, none⟩ = some (.int .i64 ses) := cell_of_blk hb0 2
  have d3 : w1.cell? ⟨w.heap.size, 3, none⟩ = some (.string k) := cell_of_blk hb0 3
  have d4 : w1.cell? ⟨w.heap.size, 4, none⟩ = some (.string text) := cell_of_blk hb0 4
  have d5 : w1.cell? ⟨w.heap.size, 5, none⟩ = some (.int .i64 big) := cell_of_blk hb0 5
  clear hb0
  go_upto_region 4 with (fail)
  go_cut [7, 8] from 32 to 40 (fun t7 t8 wx => t7 = .int .i64 rn ∧ t8 = .int .i64 rc ∧ ∃ (wb : World) (v2 : Value), Hid (Fr (fun _ => False) w1 wb) ∧ Hid (Fr G wb wx) ∧ Hid (RefH wx B (Grew G wb wx) m v2 (refLs R (ses, false, nameS k big)).2.2) ∧ Hid (wx.heap[w.heap.size]? = some (.cells #[.int .i64 who, .int .i64 1, .int .i64 ses, .string k, .string text, .int .i64 big] 28 (0, 0))))
  case first =>
    go_region_law (first
      | (go_simp; go_at_call 8; ((with_reducible refine (name25_any _ who 1 ses k text big hk hb).mono ?_); rintro e wn ⟨rfl, hfn⟩; have hqwn : Fr (fun _ => False) w1 wn := (Fr.drew (fun _ => False) w1).wide hfn (fun _ h => h.elim); have HQwn := Lib.hid hqwn; have HBwn := Lib.hid (blk_later HB1.out hqwn (fun h => h)); have s2 : wn.cell? ⟨w.heap.size, 2, none⟩ = some (.int .i64 ses) := cell_of_blk HBwn.out 2; clear hfn hqwn; have hcall := refListen_any (HH.out.quiet HQwn.out).b (Nat.le_trans hB (Nat.le_trans HQ1.out.size HQwn.out.size)) (by have := HLN.out; omega) ses (nameS k big); rw [HE12.out.1, HE12.out.2, HRN.out, HRC.out] at hcall; have HCALL := Lib.hid hcall; clear hcall; dsimp only))
      | (go_simp; go_at_call 7; ((with_reducible refine HCALL.out.mono ?_); rintro e wc ⟨rfl, hfc, v2, hRc⟩; have HFC := Lib.hid hfc; have HRF := Lib.hid hRc; have HBC := Lib.hid (blk_later HBwn.out hfc HNG.out); clear hfc hRc; dsimp only)))
    all_goals
      go_wp2
      go_meet
      case rel => exact ⟨rfl, rfl, wn, v2, HQwn, HFC, HRF, HBC⟩
  case rest =>
  clear d0 d1 d2 d3 d4 d5
  obtain ⟨rfl, rfl, wb, v2, HQB, HFC, HRF, HBC⟩ := hcut
  have hb0 := HBC.out
  have d0 : wc.cell? ⟨w.heap.size, 0, none⟩ = some (.int .i64 who) := cell_of_blk hb0 0
  have d1 : wc.cell? ⟨w.heap.size, 1, none⟩ = some (.int .i64 1) := cell_of_blk hb0 1
  have d2 : wc.cell? ⟨w.heap.size, 2, none⟩ = some (.int .i64 ses) := cell_of_blk hb0 2
  have d3 : wc.cell? ⟨w.heap.size, 3, none⟩ = some (.string k) := cell_of_blk hb0 3
  have d4 : wc.cell? ⟨w.heap.size, 4, none⟩ = some (.string text) := cell_of_blk hb0 4
  have d5 : wc.cell? ⟨w.heap.size, 5, none⟩ = some (.int .i64 big) := cell_of_blk hb0 5
  clear hb0
  go_upto_region 5 with (fail)
  go_cut [9, 10] from 41 to 49 (fun t9 t10 wx => t9 = .int .i64 rn ∧ t10 = .int .i64 rc ∧ Hid (Fr S w wx ∧ PairE wx B (Grew S w wx) (N + 1) h m))
  case first =>
    go_region_law (first
      | (go_simp; go_at_call 8; ((with_reducible refine (name25_any _ who 1 ses k text big hk hb).mono ?_); rintro e wn ⟨rfl, hfn⟩; have hqwn : Fr (fun _ => False) wc wn := (Fr.drew (fun _ => False) wc).wide hfn (fun _ h => h.elim); have HQwn := Lib.hid hqwn; have HBwn := Lib.hid (blk_later HBC.out hqwn (fun h => h)); have s2 : wn.cell? ⟨w.heap.size, 2, none⟩ = some (.int .i64 ses) := cell_of_blk HBwn.out 2; clear hfn hqwn; have hcall := hubListen_any (((HH.out.quiet HQB.out).a.other HFC.out (fun i hi hg => HH.out.ap i hi hg)).quiet HQwn.out) (Nat.le_trans hB (Nat.le_trans HQ1.out.size (Nat.le_trans HQB.out.size (Nat.le_trans HFC.out.size HQwn.out.size)))) (by omega) ses (nameS k big) hs HKS.out; rw [HRN.out, HRC.out] at hcall; have HCALL := Lib.hid hcall; clear hcall; dsimp only))
      | (go_simp; go_at_call 9; ((with_reducible refine HCALL.out.mono ?_); rintro e wf ⟨rfl, hff, hTf⟩; have HG : Hid (Fr S w wf ∧ PairE wf B (Grew S w wf) (N + 1) h m) := (fun (p : PairX wf B (Grew F wn wf) (Grew G wb wc) (N + 1) h m (lsRes fc fp ses (nameS k big)).2.2 fp v2 (refLs R (ses, false, nameS k big)).2.2 ∧ Fr (fun i => F i ∨ G i) wb wf) => pair_fin HS.out HL.out hB (HQ1.out.wide HQB.out (fun _ h => h.elim)) p.1 p.2 (grew_in HFC.out.size HQwn.out.size) (Fr.refl _ _)) ((HH.out.quiet HQB.out).step HFC.out HRF.out HQwn.out hff hTf HE3.out (does_small 0 ses (nameS k big) (fc, fp) HH.out.sm) (by have := HE4.out; have := HLN.out; omega)); clear hff hTf; dsimp only)))
    all_goals
      go_wp2
      go_meet
      case rel => exact ⟨rfl, rfl, HG⟩
  case rest =>
  clear d0 d1 d2 d3 d4 d5
  obtain ⟨rfl, rfl, HG⟩ := hcut
  go_wp2
  go_ret
  exact ⟨by simp, HG.out⟩
set_option maxRecDepth 100000 in
set_option maxHeartbeats 4000000 in
theorem plays2_any {w : World} {B N h m : Nat} {S : Nat → Prop} (H : PairE w B S N h m) (hB : B ≤ w.heap.size) (hN : N < 2199023255488) (who ses : Int) (k text : ByteArray) (big : Int) (hs : kI.ok ses) (hk : k.size ≤ 140737488355328) (hb : -9223372036854775808 ≤ big) :
    Calls Tryz.prog 6 #[.pointer (some ⟨h, 0, none⟩), .pointer (some ⟨m, 0, none⟩), .agg #[.int .i64 who, .int .i64 2, .int .i64 ses, .string k, .string text, .int .i64 big]] w (PlaysC w B S N h m) := by
  obtain ⟨F, G, fc, fp, v, R, H, hS, hl⟩ := H
  obtain ⟨w1, hw1⟩ : ∃ x, w.alloc (.cells #[.int .i64 who, .int .i64 2, .int .i64 ses, .string k, .string text, .int .i64 big] 28) = x := ⟨_, rfl⟩
  have hq1 : Fr (fun _ => False) w w1 := by rw [← hw1]; exact Fr.alloc _ _ _
  have hblk : w1.heap[w.heap.size]? = some (.cells #[.int .i64 who, .int .i64 2, .int .i64 ses, .string k, .string text, .int .i64 big] 28 (0, 0)) := by rw [← hw1]; exact alloc_at w _
  have H1 := H.quiet hq1
  have HB1 := Lib.hid hblk
  have y1 : w1.cell? ⟨w.heap.size, 1, none⟩ = some (.int .i64 2) := cell_of_blk hblk 1
  have y2 : w1.cell? ⟨w.heap.size, 2, none⟩ = some (.int .i64 ses) := cell_of_blk hblk 2
  have hnl : w.heap.size < w1.heap.size := (Array.getElem?_eq_some_iff.1 hblk).1
  have HNF : Hid (¬ F w.heap.size) := fun hF => by have := (H.a.lt _ hF).2; omega
  have HNG : Hid (¬ G w.heap.size) := fun hF => by have := (H.b.lt _ hF).2; omega
  have HH := Lib.hid H1
  have HS := Lib.hid hS
  have HL := Lib.hid hl
  have HQ1 := Lib.hid hq1
  have HW1 := Lib.hid hw1
  have HLN : Hid (R.length ≤ N) := H.len
  have hks : (nameS k big).size ≤ maxLen := by have := nameS_size k big; unfold maxLen; omega
  have HKS := Lib.hid hks
  unfold PlaysC
  clear H H1 hS hl hq1 hw1 hblk hks
  obtain ⟨e1, e2, e3, e4⟩ := lsP_eq HH.out.rw HH.out.nc HH.out.np ses (nameS k big)
  have HE12 : Hid ((refLs R (ses, true, nameS k big)).1 = (lsRes fp fc ses (nameS k big)).1 ∧ (refLs R (ses, true, nameS k big)).2.1 = (lsRes fp fc ses (nameS k big)).2.1) := ⟨e1, e2⟩
  have HE3 := Lib.hid e3
  have HE4 := Lib.hid e4
  obtain ⟨rn, hrn⟩ : ∃ x, (lsRes fp fc ses (nameS k big)).1 = x := ⟨_, rfl⟩
  obtain ⟨rc, hrc⟩ : ∃ x, (lsRes fp fc ses (nameS k big)).2.1 = x := ⟨_, rfl⟩
  have HRN := Lib.hid hrn
  have HRC := Lib.hid hrc
  clear e1 e2 e3 e4 hrn hrc
  go_enter Tryz.func6, Tryz.ntmps6
  go_upto_region 1 with (fail)
  rw [HW1.out]
  have hb0 := HB1.out
  have d0 : w1.cell? ⟨w.heap.size, 0, none⟩ = some (.int .i64 who) := cell_of_blk hb0 0
  have d1 : w1.cell? ⟨w.heap.size, 1, none⟩ = some (.int .i64 2) := cell_of_blk hb0 1
  have d2 : w1.cell? ⟨w.heap.size, 2, none⟩ = some (.int .i64 ses) := cell_of_blk hb0 2
  have d3 : w1.cell? ⟨w.heap.size, 3, none⟩ = some (.string k) := cell_of_blk hb0 3
  have d4 : w1.cell? ⟨w.heap.size, 4, none⟩ = some (.string text) := cell_of_blk hb0 4
  have d5 : w1.cell? ⟨w.heap.size, 5, none⟩ = some (.int .i64 big) := cell_of_blk hb0 5
  clear hb0
  go_upto_region 8 with (fail)
  go_cut [11, 12] from 60 to 68 (fun t11 t12 wx => t11 = .int .i64 rn ∧ t12 = .int .i64 rc ∧ ∃ (wb : World) (v2 : Value), Hid (Fr (fun _ => False) w1 wb) ∧ Hid (Fr G wb wx) ∧ Hid (RefH wx B (Grew G wb wx) m v2 (refLs R (ses, true, nameS k big)).2.2) ∧ Hid (wx.heap[w.heap.size]? = some (.cells #[.int .i64 who, .int .i64 2, .int .i64 ses, .string k, .string text, .int .i64 big] 28 (0, 0))))
  case first =>
    go_region_law (first
      | (go_simp; go_at_call 8; ((with_reducible refine (name25_any _ who 2 ses k text big hk hb).mono ?_); rintro e wn ⟨rfl, hfn⟩; have hqwn : Fr (fun _ => False) w1 wn := (Fr.drew (fun _ => False) w1).wide hfn (fun _ h => h.elim); have HQwn := Lib.hid hqwn; have HBwn := Lib.hid (blk_later HB1.out hqwn (fun h => h)); have s2 : wn.cell? ⟨w.heap.size, 2, none⟩ = some (.int .i64 ses) := cell_of_blk HBwn.out 2; clear hfn hqwn; have hcall := refLike_any (HH.out.quiet HQwn.out).b (Nat.le_trans hB (Nat.le_trans HQ1.out.size HQwn.out.size)) (by have := HLN.out; omega) ses (nameS k big); rw [HE12.out.1, HE12.out.2, HRN.out, HRC.out] at hcall; have HCALL := Lib.hid hcall; clear hcall; dsimp only))
      | (go_simp; go_at_call 10; ((with_reducible refine HCALL.out.mono ?_); rintro e wc ⟨rfl, hfc, v2, hRc⟩; have HFC := Lib.hid hfc; have HRF := Lib.hid hRc; have HBC := Lib.hid (blk_later HBwn.out hfc HNG.out); clear hfc hRc; dsimp only)))
    all_goals
      go_wp2
      go_meet
      case rel => exact ⟨rfl, rfl, wn, v2, HQwn, HFC, HRF, HBC⟩
  case rest =>
  clear d0 d1 d2 d3 d4 d5
  obtain ⟨rfl, rfl, wb, v2, HQB, HFC, HRF, HBC⟩ := hcut
  have hb0 := HBC.out
  have d0 : wc.cell? ⟨w.heap.size, 0, none⟩ = some (.int .i64 who) := cell_of_blk hb0 0
  have d1 : wc.cell? ⟨w.heap.size, 1, none⟩ = some (.int .i64 2) := cell_of_blk hb0 1
  have d2 : wc.cell? ⟨w.heap.size, 2, none⟩ = some (.int .i64 ses) := cell_of_blk hb0 2
  have d3 : wc.cell? ⟨w.heap.size, 3, none⟩ = some (.string k) := cell_of_blk hb0 3
  have d4 : wc.cell? ⟨w.heap.size, 4, none⟩ = some (.string text) := cell_of_blk hb0 4
  have d5 : wc.cell? ⟨w.heap.size, 5, none⟩ = some (.int .i64 big) := cell_of_blk hb0 5
  clear hb0
  go_upto_region 9 with (fail)
  go_cut [13, 14] from 69 to 77 (fun t13 t14 wx => t13 = .int .i64 rn ∧ t14 = .int .i64 rc ∧ Hid (Fr S w wx ∧ PairE wx B (Grew S w wx) (N + 1) h m))
  case first =>
    go_region_law (first
      | (go_simp; go_at_call 8; ((with_reducible refine (name25_any _ who 2 ses k text big hk hb).mono ?_); rintro e wn ⟨rfl, hfn⟩; have hqwn : Fr (fun _ => False) wc wn := (Fr.drew (fun _ => False) wc).wide hfn (fun _ h => h.elim); have HQwn := Lib.hid hqwn; have HBwn := Lib.hid (blk_later HBC.out hqwn (fun h => h)); have s2 : wn.cell? ⟨w.heap.size, 2, none⟩ = some (.int .i64 ses) := cell_of_blk HBwn.out 2; clear hfn hqwn; have hcall := hubLike_any (((HH.out.quiet HQB.out).a.other HFC.out (fun i hi hg => HH.out.ap i hi hg)).quiet HQwn.out) (Nat.le_trans hB (Nat.le_trans HQ1.out.size (Nat.le_trans HQB.out.size (Nat.le_trans HFC.out.size HQwn.out.size)))) (by omega) ses (nameS k big) hs HKS.out; rw [HRN.out, HRC.out] at hcall; have HCALL := Lib.hid hcall; clear hcall; dsimp only))
      | (go_simp; go_at_call 11; ((with_reducible refine HCALL.out.mono ?_); rintro e wf ⟨rfl, hff, hTf⟩; have HG : Hid (Fr S w wf ∧ PairE wf B (Grew S w wf) (N + 1) h m) := (fun (p : PairX wf B (Grew F wn wf) (Grew G wb wc) (N + 1) h m fc (lsRes fp fc ses (nameS k big)).2.2 v2 (refLs R (ses, true, nameS k big)).2.2 ∧ Fr (fun i => F i ∨ G i) wb wf) => pair_fin HS.out HL.out hB (HQ1.out.wide HQB.out (fun _ h => h.elim)) p.1 p.2 (grew_in HFC.out.size HQwn.out.size) (Fr.refl _ _)) ((HH.out.quiet HQB.out).step HFC.out HRF.out HQwn.out hff hTf HE3.out (does_small 2 ses (nameS k big) (fc, fp) HH.out.sm) (by have := HE4.out; have := HLN.out; omega)); clear hff hTf; dsimp only)))
    all_goals
      go_wp2
      go_meet
      case rel => exact ⟨rfl, rfl, HG⟩
  case rest =>
  clear d0 d1 d2 d3 d4 d5
  obtain ⟨rfl, rfl, HG⟩ := hcut
  go_wp2
  go_ret
  exact ⟨by simp, HG.out⟩
end Go.Proofs.YtleoeccjnchclaaGreatDoor

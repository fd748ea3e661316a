/- pantrylaw25's plays at Leave, LeaveLike, Drop, and where nothing is asked. No condition but sizes. -/
import Derived.Test.YtleoeccjnchclaaGreatDoorZbd
import Derived.StillTailTactics
namespace Go.Proofs.YtleoeccjnchclaaGreatDoor
open Go.RowKit
/-- what plays does that lays no name -/
def PlaysK (w : World) (B : Nat) (S : Nat → Prop) (N h m : Nat) (e : Ending) (w' : World) : Prop := e = .returned (.bool true) ∧ Fr S w w' ∧ PairE w' B (Grew S w w') N h m
theorem PairE.upN {w : World} {B N N' h m : Nat} {S : Nat → Prop} (H : PairE w B S N h m) (hN : N ≤ N') : PairE w B S N' h m := by
  obtain ⟨F, G, fc, fp, v, R, H, hS, hl⟩ := H
  exact ⟨F, G, fc, fp, v, R, ⟨H.a.upN hN, H.b, H.ap, H.sm, H.rw, Nat.le_trans H.len hN⟩, hS, hl⟩
theorem PlaysK.up {w w' : World} {B N h m : Nat} {S : Nat → Prop} {e : Ending} (H : PlaysK w B S N h m e w') : PlaysC w B S N h m e w' := ⟨H.1, H.2.1, H.2.2.upN (Nat.le_succ N)⟩
set_option maxRecDepth 100000 in
set_option maxHeartbeats 4000000 in
theorem plays3_any {w : World} {B N h m : Nat} {S : Nat → Prop} (H : PairE w B S N h m) (hB : B ≤ w.heap.size) (hN : N < 2199023255488) (who ses : Int) (k text : ByteArray) (big : Int) (hs : kI.ok ses) (hk : k.size ≤ 140737488355328) (hb : -9223372036854775808 ≤ big) :
    Calls Tryz.prog 6 #[.pointer (some ⟨h, 0, none⟩), .pointer (some ⟨m, 0, none⟩), .agg #[.int .i64 who, .int .i64 3, .int .i64 ses, .string k, .string text, .int .i64 big]] w (PlaysC w B S N h m) := by
  obtain ⟨F, G, fc, fp, v, R, H, hS, hl⟩ := H
  obtain ⟨w1, hw1⟩ : ∃ x, w.alloc (.cells #[.int .i64 who, .int .i64 3, .int .i64 ses, .string k, .string text, .int .i64 big] 28) = x := ⟨_, rfl⟩
  have hq1 : Fr (fun _ => False) w w1 := by rw [← hw1]; exact Fr.alloc _ _ _
  have hblk : w1.heap[w.heap.size]? = some (.cells #[.int .i64 who, .int .i64 3, .int .i64 ses, .string k, .string text, .int .i64 big] 28 (0, 0)) := by rw [← hw1]; exact alloc_at w _
  have H1 := H.quiet hq1
  have HB1 := Lib.hid hblk
  have y1 : w1.cell? ⟨w.heap.size, 1, none⟩ = some (.int .i64 3) := cell_of_blk hblk 1
  have y2 : w1.cell? ⟨w.heap.size, 2, none⟩ = some (.int .i64 ses) := cell_of_blk hblk 2
  have hnl : w.heap.size < w1.heap.size := (Array.getElem?_eq_some_iff.1 hblk).1
  have HNF : Hid (¬ F w.heap.size) := fun hF => by have := (H.a.lt _ hF).2; omega
  have HNG : Hid (¬ G w.heap.size) := fun hF => by have := (H.b.lt _ hF).2; omega
  have HH := Lib.hid H1
  have HS := Lib.hid hS
  have HL := Lib.hid hl
  have HQ1 := Lib.hid hq1
  have HW1 := Lib.hid hw1
  have HLN : Hid (R.length ≤ N) := H.len
  have hks : (nameS k big).size ≤ maxLen := by have := nameS_size k big; unfold maxLen; omega
  have HKS := Lib.hid hks
  unfold PlaysC
  clear H H1 hS hl hq1 hw1 hblk hks
  have hrw := RowsOf.leaveC HH.out.rw ses (nameS k big)
  have hcn : ((R.filter (notX (ses, false, nameS k big))).filter (ofS ses)).length = (delF fc ses (nameS k big) ses).length + (fp ses).length := hrw.size ses (delF_nodup ses (nameS k big) HH.out.nc ses) (HH.out.np ses)
  have HRW := Lib.hid hrw
  have HCN := Lib.hid hcn
  obtain ⟨rn, hrn⟩ : ∃ x, (delF fc ses (nameS k big) ses).length + (fp ses).length = x := ⟨_, rfl⟩
  have HRN := Lib.hid hrn
  clear hrw hcn hrn
  go_enter Tryz.func6, Tryz.ntmps6
  go_upto_region 1 with (fail)
  rw [HW1.out]
  have hb0 := HB1.out
  have d0 : w1.cell? ⟨w.heap.size, 0, none⟩ = some (.int .i64 who) := cell_of_blk hb0 0
  have d1 : w1.cell? ⟨w.heap.size, 1, none⟩ = some (.int .i64 3) := cell_of_blk hb0 1
  have d2 : w1.cell? ⟨w.heap.size, 2, none⟩ = some (.int .i64 ses) := cell_of_blk hb0 2
  have d3 : w1.cell? ⟨w.heap.size, 3, none⟩ = some (.string k) := cell_of_blk hb0 3
  have d4 : w1.cell? ⟨w.heap.size, 4, none⟩ = some (.string text) := cell_of_blk hb0 4
  have d5 : w1.cell? ⟨w.heap.size, 5, none⟩ = some (.int .i64 big) := cell_of_blk hb0 5
  clear hb0
  go_upto_region 12 with (fail)
  go_cut [15] from 88 to 93 (fun t15 wx => t15 = .int .i64 rn ∧ ∃ (wb : World) (v2 : Value), Hid (Fr (fun _ => False) w1 wb) ∧ Hid (Fr G wb wx) ∧ Hid (RefH wx B (Grew G wb wx) m v2 (R.filter (notX (ses, false, nameS k big)))) ∧ Hid (wx.heap[w.heap.size]? = some (.cells #[.int .i64 who, .int .i64 3, .int .i64 ses, .string k, .string text, .int .i64 big] 28 (0, 0))))
  case first =>
    go_region_law (first
      | (go_simp; go_at_call 8; ((with_reducible refine (name25_any _ who 3 ses k text big hk hb).mono ?_); rintro e wn ⟨rfl, hfn⟩; have hqwn : Fr (fun _ => False) w1 wn := (Fr.drew (fun _ => False) w1).wide hfn (fun _ h => h.elim); have HQwn := Lib.hid hqwn; have HBwn := Lib.hid (blk_later HB1.out hqwn (fun h => h)); have s2 : wn.cell? ⟨w.heap.size, 2, none⟩ = some (.int .i64 ses) := cell_of_blk HBwn.out 2; clear hfn hqwn; have hcall := refLeave_any (HH.out.quiet HQwn.out).b (Nat.le_trans hB (Nat.le_trans HQ1.out.size HQwn.out.size)) (by have := HLN.out; omega) ses (nameS k big); rw [HCN.out, HRN.out] at hcall; have HCALL := Lib.hid hcall; clear hcall; dsimp only))
      | (go_simp; go_at_call 12; ((with_reducible refine HCALL.out.mono ?_); rintro e wc ⟨rfl, hfc, v2, hRc⟩; have HFC := Lib.hid hfc; have HRF := Lib.hid hRc; have HBC := Lib.hid (blk_later HBwn.out hfc HNG.out); clear hfc hRc; dsimp only)))
    all_goals
      go_wp2
      go_meet
      case rel => exact ⟨rfl, wn, v2, HQwn, HFC, HRF, HBC⟩
  case rest =>
  clear d0 d1 d2 d3 d4 d5
  obtain ⟨rfl, wb, v2, HQB, HFC, HRF, HBC⟩ := hcut
  have hb0 := HBC.out
  have d0 : wc.cell? ⟨w.heap.size, 0, none⟩ = some (.int .i64 who) := cell_of_blk hb0 0
  have d1 : wc.cell? ⟨w.heap.size, 1, none⟩ = some (.int .i64 3) := cell_of_blk hb0 1
  have d2 : wc.cell? ⟨w.heap.size, 2, none⟩ = some (.int .i64 ses) := cell_of_blk hb0 2
  have d3 : wc.cell? ⟨w.heap.size, 3, none⟩ = some (.string k) := cell_of_blk hb0 3
  have d4 : wc.cell? ⟨w.heap.size, 4, none⟩ = some (.string text) := cell_of_blk hb0 4
  have d5 : wc.cell? ⟨w.heap.size, 5, none⟩ = some (.int .i64 big) := cell_of_blk hb0 5
  clear hb0
  go_upto_region 13 with (fail)
  go_cut [6] from 94 to 101 (fun t6 wx => t6 = .bool true ∧ Hid (Fr S w wx ∧ PairE wx B (Grew S w wx) (N + 1) h m))
  case first =>
    go_region_law (first
      | (go_simp; go_at_call 8; ((with_reducible refine (name25_any _ who 3 ses k text big hk hb).mono ?_); rintro e wn ⟨rfl, hfn⟩; have hqwn : Fr (fun _ => False) wc wn := (Fr.drew (fun _ => False) wc).wide hfn (fun _ h => h.elim); have HQwn := Lib.hid hqwn; have HBwn := Lib.hid (blk_later HBC.out hqwn (fun h => h)); have s2 : wn.cell? ⟨w.heap.size, 2, none⟩ = some (.int .i64 ses) := cell_of_blk HBwn.out 2; clear hfn hqwn; have hcall := hubLeave_any (((HH.out.quiet HQB.out).a.other HFC.out (fun i hi hg => HH.out.ap i hi hg)).quiet HQwn.out) (Nat.le_trans hB (Nat.le_trans HQ1.out.size (Nat.le_trans HQB.out.size (Nat.le_trans HFC.out.size HQwn.out.size)))) ses (nameS k big) hs HKS.out; rw [HRN.out] at hcall; have HCALL := Lib.hid hcall; clear hcall; dsimp only))
      | (go_simp; go_at_call 13; ((with_reducible refine HCALL.out.mono ?_); rintro e wf ⟨rfl, hff, hTf⟩; have HG : Hid (Fr S w wf ∧ PairE wf B (Grew S w wf) (N + 1) h m) := (fun (p : PairX wf B (Grew F wn wf) (Grew G wb wc) (N + 1) h m (delF fc ses (nameS k big)) fp v2 (R.filter (notX (ses, false, nameS k big))) ∧ Fr (fun i => F i ∨ G i) wb wf) => pair_fin HS.out HL.out hB (HQ1.out.wide HQB.out (fun _ h => h.elim)) p.1 p.2 (grew_in HFC.out.size HQwn.out.size) (Fr.refl _ _)) ((HH.out.quiet HQB.out).step HFC.out HRF.out HQwn.out hff (hTf.upN (Nat.le_succ N)) HRW.out (does_small 3 ses (nameS k big) (fc, fp) HH.out.sm) (by have := List.length_filter_le (notX (ses, false, nameS k big)) R; have := HLN.out; omega)); clear hff hTf; dsimp only)))
    all_goals
      go_wp2
      go_meet
      case rel => exact ⟨by simp, HG⟩
  case rest =>
  clear d0 d1 d2 d3 d4 d5
  obtain ⟨rfl, HG⟩ := hcut
  go_wp2
  go_ret
  exact ⟨rfl, HG.out⟩
set_option maxRecDepth 100000 in
set_option maxHeartbeats 4000000 in
theorem plays4_any {w : World} {B N h m : Nat} {S : Nat → Prop} (H : PairE w B S N h m) (hB : B ≤ w.heap.size) (hN : N < 2199023255488) (who ses : Int) (k text : ByteArray) (big : Int) (hs : kI.ok ses) (hk : k.size ≤ 140737488355328) (hb : -9223372036854775808 ≤ big) :
    Calls Tryz.prog 6 #[.pointer (some ⟨h, 0, none⟩), .pointer (some ⟨m, 0, none⟩), .agg #[.int .i64 who, .int .i64 4, .int .i64 ses, .string k, .string text, .int .i64 big]] w (PlaysC w B S N h m) := by
  obtain ⟨F, G, fc, fp, v, R, H, hS, hl⟩ := H
  obtain ⟨w1, hw1⟩ : ∃ x, w.alloc (.cells #[.int .i64 who, .int .i64 4, .int .i64 ses, .string k, .string text, .int .i64 big] 28) = x := ⟨_, rfl⟩
  have hq1 : Fr (fun _ => False) w w1 := by rw [← hw1]; exact Fr.alloc _ _ _
  have hblk : w1.heap[w.heap.size]? = some (.cells #[.int .i64 who, .int .i64 4, .int .i64 ses, .string k, .string text, .int .i64 big] 28 (0, 0)) := by rw [← hw1]; exact alloc_at w _
  have H1 := H.quiet hq1
  have HB1 := Lib.hid hblk
  have y1 : w1.cell? ⟨w.heap.size, 1, none⟩ = some (.int .i64 4) := cell_of_blk hblk 1
  have y2 : w1.cell? ⟨w.heap.size, 2, none⟩ = some (.int .i64 ses) := cell_of_blk hblk 2
  have hnl : w.heap.size < w1.heap.size := (Array.getElem?_eq_some_iff.1 hblk).1
  have HNF : Hid (¬ F w.heap.size) := fun hF => by have := (H.a.lt _ hF).2; omega
  have HNG : Hid (¬ G w.heap.size) := fun hF => by have := (H.b.lt _ hF).2; omega
  have HH := Lib.hid H1
  have HS := Lib.hid hS
  have HL := Lib.hid hl
  have HQ1 := Lib.hid hq1
  have HW1 := Lib.hid hw1
  have HLN : Hid (R.length ≤ N) := H.len
  have hks : (nameS k big).size ≤ maxLen := by have := nameS_size k big; unfold maxLen; omega
  have HKS := Lib.hid hks
  unfold PlaysC
  clear H H1 hS hl hq1 hw1 hblk hks
  have hrw := RowsOf.leaveP HH.out.rw ses (nameS k big)
  have hcn : ((R.filter (notX (ses, true, nameS k big))).filter (ofS ses)).length = (fc ses).length + (delF fp ses (nameS k big) ses).length := hrw.size ses (HH.out.nc ses) (delF_nodup ses (nameS k big) HH.out.np ses)
  have HRW := Lib.hid hrw
  have HCN := Lib.hid hcn
  obtain ⟨rn, hrn⟩ : ∃ x, (fc ses).length + (delF fp ses (nameS k big) ses).length = x := ⟨_, rfl⟩
  have HRN := Lib.hid hrn
  clear hrw hcn hrn
  go_enter Tryz.func6, Tryz.ntmps6
  go_upto_region 1 with (fail)
  rw [HW1.out]
  have hb0 := HB1.out
  have d0 : w1.cell? ⟨w.heap.size, 0, none⟩ = some (.int .i64 who) := cell_of_blk hb0 0
  have d1 : w1.cell? ⟨w.heap.size, 1, none⟩ = some (.int .i64 4) := cell_of_blk hb0 1
  have d2 : w1.cell? ⟨w.heap.size, 2, none⟩ = some (.int .i64 ses) := cell_of_blk hb0 2
  have d3 : w1.cell? ⟨w.heap.size, 3, none⟩ = some (.string k) := cell_of_blk hb0 3
  have d4 : w1.cell? ⟨w.heap.size, 4, none⟩ = some (.string text) := cell_of_blk hb0 4
  have d5 : w1.cell? ⟨w.heap.size, 5, none⟩ = some (.int .i64 big) := cell_of_blk hb0 5
  clear hb0
  go_upto_region 15 with (fail)
  go_cut [16] from 104 to 109 (fun t16 wx => t16 = .int .i64 rn ∧ ∃ (wb : World) (v2 : Value), Hid (Fr (fun _ => False) w1 wb) ∧ Hid (Fr G wb wx) ∧ Hid (RefH wx B (Grew G wb wx) m v2 (R.filter (notX (ses, true, nameS k big)))) ∧ Hid (wx.heap[w.heap.size]? = some (.cells #[.int .i64 who, .int .i64 4, .int .i64 ses, .string k, .string text, .int .i64 big] 28 (0, 0))))
  case first =>
    go_region_law (first
      | (go_simp; go_at_call 8; ((with_reducible refine (name25_any _ who 4 ses k text big hk hb).mono ?_); rintro e wn ⟨rfl, hfn⟩; have hqwn : Fr (fun _ => False) w1 wn := (Fr.drew (fun _ => False) w1).wide hfn (fun _ h => h.elim); have HQwn := Lib.hid hqwn; have HBwn := Lib.hid (blk_later HB1.out hqwn (fun h => h)); have s2 : wn.cell? ⟨w.heap.size, 2, none⟩ = some (.int .i64 ses) := cell_of_blk HBwn.out 2; clear hfn hqwn; have hcall := refLeaveLike_any (HH.out.quiet HQwn.out).b (Nat.le_trans hB (Nat.le_trans HQ1.out.size HQwn.out.size)) (by have := HLN.out; omega) ses (nameS k big); rw [HCN.out, HRN.out] at hcall; have HCALL := Lib.hid hcall; clear hcall; dsimp only))
      | (go_simp; go_at_call 14; ((with_reducible refine HCALL.out.mono ?_); rintro e wc ⟨rfl, hfc, v2, hRc⟩; have HFC := Lib.hid hfc; have HRF := Lib.hid hRc; have HBC := Lib.hid (blk_later HBwn.out hfc HNG.out); clear hfc hRc; dsimp only)))
    all_goals
      go_wp2
      go_meet
      case rel => exact ⟨rfl, wn, v2, HQwn, HFC, HRF, HBC⟩
  case rest =>
  clear d0 d1 d2 d3 d4 d5
  obtain ⟨rfl, wb, v2, HQB, HFC, HRF, HBC⟩ := hcut
  have hb0 := HBC.out
  have d0 : wc.cell? ⟨w.heap.size, 0, none⟩ = some (.int .i64 who) := cell_of_blk hb0 0
  have d1 : wc.cell? ⟨w.heap.size, 1, none⟩ = some (.int .i64 4) := cell_of_blk hb0 1
  have d2 : wc.cell? ⟨w.heap.size, 2, none⟩ = some (.int .i64 ses) := cell_of_blk hb0 2
  have d3 : wc.cell? ⟨w.heap.size, 3, none⟩ = some (.string k) := cell_of_blk hb0 3
  have d4 : wc.cell? ⟨w.heap.size, 4, none⟩ = some (.string text) := cell_of_blk hb0 4
  have d5 : wc.cell? ⟨w.heap.size, 5, none⟩ = some (.int .i64 big) := cell_of_blk hb0 5
  clear hb0
  go_upto_region 16 with (fail)
  go_cut [6] from 110 to 117 (fun t6 wx => t6 = .bool true ∧ Hid (Fr S w wx ∧ PairE wx B (Grew S w wx) (N + 1) h m))
  case first =>
    go_region_law (first
      | (go_simp; go_at_call 8; ((with_reducible refine (name25_any _ who 4 ses k text big hk hb).mono ?_); rintro e wn ⟨rfl, hfn⟩; have hqwn : Fr (fun _ => False) wc wn := (Fr.drew (fun _ => False) wc).wide hfn (fun _ h => h.elim); have HQwn := Lib.hid hqwn; have HBwn := Lib.hid (blk_later HBC.out hqwn (fun h => h)); have s2 : wn.cell? ⟨w.heap.size, 2, none⟩ = some (.int .i64 ses) := cell_of_blk HBwn.out 2; clear hfn hqwn; have hcall := hubLeaveLike_any (((HH.out.quiet HQB.out).a.other HFC.out (fun i hi hg => HH.out.ap i hi hg)).quiet HQwn.out) (Nat.le_trans hB (Nat.le_trans HQ1.out.size (Nat.le_trans HQB.out.size (Nat.le_trans HFC.out.size HQwn.out.size)))) ses (nameS k big) hs HKS.out; rw [HRN.out] at hcall; have HCALL := Lib.hid hcall; clear hcall; dsimp only))
      | (go_simp; go_at_call 15; ((with_reducible refine HCALL.out.mono ?_); rintro e wf ⟨rfl, hff, hTf⟩; have HG : Hid (Fr S w wf ∧ PairE wf B (Grew S w wf) (N + 1) h m) := (fun (p : PairX wf B (Grew F wn wf) (Grew G wb wc) (N + 1) h m fc (delF fp ses (nameS k big)) v2 (R.filter (notX (ses, true, nameS k big))) ∧ Fr (fun i => F i ∨ G i) wb wf) => pair_fin HS.out HL.out hB (HQ1.out.wide HQB.out (fun _ h => h.elim)) p.1 p.2 (grew_in HFC.out.size HQwn.out.size) (Fr.refl _ _)) ((HH.out.quiet HQB.out).step HFC.out HRF.out HQwn.out hff (hTf.upN (Nat.le_succ N)) HRW.out (does_small 4 ses (nameS k big) (fc, fp) HH.out.sm) (by have := List.length_filter_le (notX (ses, true, nameS k big)) R; have := HLN.out; omega)); clear hff hTf; dsimp only)))
    all_goals
      go_wp2
      go_meet
      case rel => exact ⟨by simp, HG⟩
  case rest =>
  clear d0 d1 d2 d3 d4 d5
  obtain ⟨rfl, HG⟩ := hcut
  go_wp2
  go_ret
  exact ⟨rfl, HG.out⟩
set_option maxRecDepth 100000 in
set_option maxHeartbeats 4000000 in
theorem plays5_any {w : World} {B N h m : Nat} {S : Nat → Prop} (H : PairE w B S N h m) (hB : B ≤ w.heap.size) (hN : N ≤ 2199023255488) (who ses : Int) (k text : ByteArray) (big : Int) (hs : kI.ok ses) (hk : k.size ≤ 140737488355328) (hb : -9223372036854775808 ≤ big) :
    Calls Tryz.prog 6 #[.pointer (some ⟨h, 0, none⟩), .pointer (some ⟨m, 0, none⟩), .agg #[.int .i64 who, .int .i64 5, .int .i64 ses, .string k, .string text, .int .i64 big]] w (PlaysK w B S N h m) := by
  obtain ⟨F, G, fc, fp, v, R, H, hS, hl⟩ := H
  obtain ⟨w1, hw1⟩ : ∃ x, w.alloc (.cells #[.int .i64 who, .int .i64 5, .int .i64 ses, .string k, .string text, .int .i64 big] 28) = x := ⟨_, rfl⟩
  have hq1 : Fr (fun _ => False) w w1 := by rw [← hw1]; exact Fr.alloc _ _ _
  have hblk : w1.heap[w.heap.size]? = some (.cells #[.int .i64 who, .int .i64 5, .int .i64 ses, .string k, .string text, .int .i64 big] 28 (0, 0)) := by rw [← hw1]; exact alloc_at w _
  have H1 := H.quiet hq1
  have HB1 := Lib.hid hblk
  have y1 : w1.cell? ⟨w.heap.size, 1, none⟩ = some (.int .i64 5) := cell_of_blk hblk 1
  have y2 : w1.cell? ⟨w.heap.size, 2, none⟩ = some (.int .i64 ses) := cell_of_blk hblk 2
  have hnl : w.heap.size < w1.heap.size := (Array.getElem?_eq_some_iff.1 hblk).1
  have HNF : Hid (¬ F w.heap.size) := fun hF => by have := (H.a.lt _ hF).2; omega
  have HNG : Hid (¬ G w.heap.size) := fun hF => by have := (H.b.lt _ hF).2; omega
  have HH := Lib.hid H1
  have HS := Lib.hid hS
  have HL := Lib.hid hl
  have HQ1 := Lib.hid hq1
  have HW1 := Lib.hid hw1
  have HLN : Hid (R.length ≤ N) := H.len
  have hks : (nameS k big).size ≤ maxLen := by have := nameS_size k big; unfold maxLen; omega
  have HKS := Lib.hid hks
  unfold PlaysK
  clear H H1 hS hl hq1 hw1 hblk hks
  go_enter Tryz.func6, Tryz.ntmps6
  go_upto_region 1 with (fail)
  rw [HW1.out]
  have HR := Lib.hid (refDrop_any HH.out.b (Nat.le_trans hB HQ1.out.size) (by have := HLN.out; omega) ses)
  go_wp2_with fail
  refine HR.out.mono ?_
  rintro e wc ⟨⟨u, rfl⟩, hfc, v2, hRc⟩
  have HFC := Lib.hid hfc
  have HRF := Lib.hid hRc
  have hbc := blk_later HB1.out hfc HNG.out
  have c2 : wc.cell? ⟨w.heap.size, 2, none⟩ = some (.int .i64 ses) := cell_of_blk hbc 2
  have HT0 := HH.out.a.other hfc (fun i hi hg => HH.out.ap i hi hg)
  have HT := Lib.hid (hubDrop_any HT0 (Nat.le_trans hB (Nat.le_trans HQ1.out.size hfc.size)) ses hs (fun x hx => by have := HH.out.sm.1 ses x hx; unfold maxLen; omega))
  clear hfc hRc hbc HT0
  go_wp2_with fail
  refine HT.out.mono ?_
  rintro e wf ⟨⟨u2, rfl⟩, hff, hTf⟩
  have HG : Hid (Fr S w wf ∧ PairE wf B (Grew S w wf) N h m) := by
    obtain ⟨p1, p2⟩ := HH.out.step HFC.out HRF.out (Fr.refl _ _) hff hTf (HH.out.rw.drop ses) (does_small 5 ses k (fc, fp) HH.out.sm) (by have := List.length_filter_le (notS ses) R; have := HLN.out; omega)
    exact pair_fin HS.out HL.out hB HQ1.out p1 p2 (grew_in HFC.out.size (Nat.le_refl _)) (Fr.refl _ _)
  clear hff hTf
  go_wp2_with fail
  go_ret
  exact ⟨by simp, HG.out⟩
set_option maxRecDepth 100000 in
set_option maxHeartbeats 4000000 in
theorem playsElse_any {w : World} {B N h m : Nat} {S : Nat → Prop} (H : PairE w B S N h m) (hB : B ≤ w.heap.size) (hN : N < 2199023255488) (who do_ ses : Int) (k text : ByteArray) (big : Int) (hs : kI.ok ses) (hk : k.size ≤ 140737488355328) (hb : -9223372036854775808 ≤ big) (n0 : ¬ do_ = 0) (n1 : ¬ do_ = 1) (n2 : ¬ do_ = 2) (n3 : ¬ do_ = 3) (n4 : ¬ do_ = 4) (n5 : ¬ do_ = 5) (n6 : ¬ do_ = 6) (n7 : ¬ do_ = 7) :
    Calls Tryz.prog 6 #[.pointer (some ⟨h, 0, none⟩), .pointer (some ⟨m, 0, none⟩), .agg #[.int .i64 who, .int .i64 do_, .int .i64 ses, .string k, .string text, .int .i64 big]] w (PlaysC w B S N h m) := by
  obtain ⟨F, G, fc, fp, v, R, H, hS, hl⟩ := H
  obtain ⟨w1, hw1⟩ : ∃ x, w.alloc (.cells #[.int .i64 who, .int .i64 do_, .int .i64 ses, .string k, .string text, .int .i64 big] 28) = x := ⟨_, rfl⟩
  have hq1 : Fr (fun _ => False) w w1 := by rw [← hw1]; exact Fr.alloc _ _ _
  have hblk : w1.heap[w.heap.size]? = some (.cells #[.int .i64 who, .int .i64 do_, .int .i64 ses, .string k, .string text, .int .i64 big] 28 (0, 0)) := by rw [← hw1]; exact alloc_at w _
  have H1 := H.quiet hq1
  have HB1 := Lib.hid hblk
  have y1 : w1.cell? ⟨w.heap.size, 1, none⟩ = some (.int .i64 do_) := cell_of_blk hblk 1
  have y2 : w1.cell? ⟨w.heap.size, 2, none⟩ = some (.int .i64 ses) := cell_of_blk hblk 2
  have hnl : w.heap.size < w1.heap.size := (Array.getElem?_eq_some_iff.1 hblk).1
  have HNF : Hid (¬ F w.heap.size) := fun hF => by have := (H.a.lt _ hF).2; omega
  have HNG : Hid (¬ G w.heap.size) := fun hF => by have := (H.b.lt _ hF).2; omega
  have HH := Lib.hid H1
  have HS := Lib.hid hS
  have HL := Lib.hid hl
  have HQ1 := Lib.hid hq1
  have HW1 := Lib.hid hw1
  have HLN : Hid (R.length ≤ N) := H.len
  have hks : (nameS k big).size ≤ maxLen := by have := nameS_size k big; unfold maxLen; omega
  have HKS := Lib.hid hks
  unfold PlaysC
  clear H H1 hS hl hq1 hw1 hblk hks
  have HG : Hid (Fr S w w1 ∧ PairE w1 B (Grew S w w1) (N + 1) h m) := by
    refine ⟨HQ1.out.mono (fun _ h _ => h.elim), F, G, fc, fp, v, R, ⟨HH.out.a.upN (Nat.le_succ N), HH.out.b, HH.out.ap, HH.out.sm, HH.out.rw, Nat.le_trans HLN.out (Nat.le_succ N)⟩, fun i hi => .inl (HS.out i hi), grew_lt HL.out hB HQ1.out.size⟩
  go_enter Tryz.func6, Tryz.ntmps6
  go_upto_region 1 with (fail)
  rw [HW1.out]
  go_wp2_with fail
  go_ret
  exact ⟨rfl, HG.out⟩
end Go.Proofs.YtleoeccjnchclaaGreatDoor

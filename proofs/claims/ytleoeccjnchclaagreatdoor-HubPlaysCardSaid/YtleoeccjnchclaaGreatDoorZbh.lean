/- pantrylaw25's plays where a hub is asked. No condition but sizes. -/
import Derived.Test.YtleoeccjnchclaaGreatDoorZbe
import Derived.StillTailTactics
import Derived.Deep.AppendLies
import Derived.Laws.OwnMore
namespace Go.Proofs.YtleoeccjnchclaaGreatDoor
open Go.RowKit
/-- what Channels, or Patterns, tells: a list of its own -/
def NamesO (w : World) (C : List ByteArray) (e : Ending) (w' : World) : Prop :=
  ∃ a c, e = .returned (.slice a C.length c) ∧ w'.ownsRow w.heap.size 9 1 (.slice a C.length c) C.length (C.map .string) ∧ Fr (fun _ => False) w w'
theorem namesO_of {w w' : World} {l C : List ByteArray} {e : Ending} (h : RPriseS w l e w') (hC : sortS l = C) : NamesO w C e w' := by
  obtain ⟨v, rfl, hr, hb⟩ := h
  have hl : l.length = C.length := by rw [← hC, sortS_len]
  rw [hC, hl] at hr
  obtain ⟨a, c, rfl, _⟩ := ow_slot hr
  exact ⟨a, c, rfl, hr, (Fr.of_below hb).mono fun _ hi hk => absurd hk (by omega)⟩
theorem chanO_any {w : World} {B N h : Nat} {F : Nat → Prop} {fc fp : Int → List ByteArray} (H : HubT w B F N h fc fp) (s : Int) (hs : kI.ok s) {C : List ByteArray} (hC : sortS (fc s) = C) : Calls Tryz.prog 23 #[.pointer (some ⟨h, 0, none⟩), .int .i64 s] w (NamesO w C) :=
  (hubChannels_any H s hs).mono fun e w' hp => namesO_of hp hC
theorem pattO_any {w : World} {B N h : Nat} {F : Nat → Prop} {fc fp : Int → List ByteArray} (H : HubT w B F N h fc fp) (s : Int) (hs : kI.ok s) {C : List ByteArray} (hC : sortS (fp s) = C) : Calls Tryz.prog 24 #[.pointer (some ⟨h, 0, none⟩), .int .i64 s] w (NamesO w C) :=
  (hubPatterns_any H s hs).mono fun e w' hp => namesO_of hp hC
theorem same_self (w : World) (v1 v2 : Value) (l : List ByteArray) (h1 : RdC w 1 v1 l.length (l.map .string)) (h2 : RdC w 1 v2 l.length (l.map .string)) : Calls Tryz.prog 25 #[v1, v2] w fun e w' => e = .returned (.bool true) ∧ Fr (fun _ => False) w w' :=
  (same25_any w v1 v2 l l h1 h2).mono fun e w' ⟨h, m, hw⟩ => ⟨by rw [h, decide_eq_true (rfl : l = l)], by rw [hw]; exact Fr.drewN _ w m⟩
set_option maxRecDepth 100000 in
set_option maxHeartbeats 4000000 in
theorem plays7_any {w : World} {B N h m : Nat} {S : Nat → Prop} (H : PairE w B S N h m) (hB : B ≤ w.heap.size) (hN : N ≤ 2199023255488) (who ses : Int) (k text : ByteArray) (big : Int) (hs : kI.ok ses) (hk : k.size ≤ 140737488355328) (hb : -9223372036854775808 ≤ big) :
    Calls Tryz.prog 6 #[.pointer (some ⟨h, 0, none⟩), .pointer (some ⟨m, 0, none⟩), .agg #[.int .i64 who, .int .i64 7, .int .i64 ses, .string k, .string text, .int .i64 big]] w (PlaysK w B S N h m) := by
  obtain ⟨F, G, fc, fp, v, R, H, hS, hl⟩ := H
  obtain ⟨w1, hw1⟩ : ∃ x, w.alloc (.cells #[.int .i64 who, .int .i64 7, .int .i64 ses, .string k, .string text, .int .i64 big] 28) = x := ⟨_, rfl⟩
  have hq1 : Fr (fun _ => False) w w1 := by rw [← hw1]; exact Fr.alloc _ _ _
  have hblk : w1.heap[w.heap.size]? = some (.cells #[.int .i64 who, .int .i64 7, .int .i64 ses, .string k, .string text, .int .i64 big] 28 (0, 0)) := by rw [← hw1]; exact alloc_at w _
  have H1 := H.quiet hq1
  have HB1 := Lib.hid hblk
  have y1 : w1.cell? ⟨w.heap.size, 1, none⟩ = some (.int .i64 7) := cell_of_blk hblk 1
  have y2 : w1.cell? ⟨w.heap.size, 2, none⟩ = some (.int .i64 ses) := cell_of_blk hblk 2
  have hnl : w.heap.size < w1.heap.size := (Array.getElem?_eq_some_iff.1 hblk).1
  have HNF : Hid (¬ F w.heap.size) := fun hF => by have := (H.a.lt _ hF).2; omega
  have HNG : Hid (¬ G w.heap.size) := fun hF => by have := (H.b.lt _ hF).2; omega
  have HH := Lib.hid H1
  have HS := Lib.hid hS
  have HL := Lib.hid hl
  have HQ1 := Lib.hid hq1
  have HW1 := Lib.hid hw1
  have HLN : Hid (R.length ≤ N) := H.len
  have hks : (nameS k big).size ≤ maxLen := by have := nameS_size k big; unfold maxLen; omega
  have HKS := Lib.hid hks
  unfold PlaysK
  clear H H1 hS hl hq1 hw1 hblk hks
  obtain ⟨Z, hZ, hz⟩ := rows_named HH.out.rw
  have hcr := count_rows HH.out.rw hZ hz HH.out.nc HH.out.np (nameS k big) text
  have HN : Hid (∀ W, Fr (fun _ => False) w1 W → Calls Tryz.prog 8 #[.agg #[.int .i64 who, .int .i64 7, .int .i64 ses, .string k, .string text, .int .i64 big]] W fun e w' => e = .returned (.string (nameS k big)) ∧ Fr (fun _ => False) W w') := fun W _ => name25_any W who 7 ses k text big hk hb
  have HCH : Hid (∀ W, Fr (fun _ => False) w1 W → Calls Tryz.prog 21 #[.pointer (some ⟨h, 0, none⟩), .string (nameS k big)] W fun e w' => e = .returned (.int .i64 (R.filter (ofK (nameS k big))).length) ∧ W = w') := fun W hW => by
    rw [← hcr]
    exact countT_any (HH.out.a.quiet hW) (nameS k big) text HKS.out hZ hz
  have HCR : Hid (∀ W, Fr (fun _ => False) w1 W → Calls Tryz.prog 22 #[.pointer (some ⟨m, 0, none⟩), .string (nameS k big)] W fun e w' => e = .returned (.int .i64 (R.filter (ofK (nameS k big))).length) ∧ Fr (fun _ => False) W w') := fun W hW => refCount_any (HH.out.b.quiet hW) (by have := HLN.out; omega) (nameS k big)
  have HCL : Hid (∀ (i : Nat) (u : Value) (W : World), Fr (fun _ => False) w1 W → (#[.int .i64 who, .int .i64 7, .int .i64 ses, .string k, .string text, .int .i64 big] : Array Value)[i]? = some u → W.cell? ⟨w.heap.size, i, none⟩ = some u) := fun i u W hW hu => by
    rw [cell_of_blk (blk_later HB1.out hW (fun h => h)) i]; exact hu
  obtain ⟨cn, hcn⟩ : ∃ n, (R.filter (ofK (nameS k big))).length = n := ⟨_, rfl⟩
  rw [hcn] at HCH HCR
  obtain ⟨C, hC⟩ : ∃ C, sortS (fc ses) = C := ⟨_, rfl⟩
  obtain ⟨P, hP⟩ : ∃ P, sortS (fp ses) = P := ⟨_, rfl⟩
  have HC := Lib.hid hC
  have HP := Lib.hid hP
  have HRC : Hid ((R.filter (ofSL ses false)).map (fun r => r.2.2) = C) := by show _ = _; rw [← hC]; exact HH.out.rw.names ses false (HH.out.nc ses)
  have HRP : Hid ((R.filter (ofSL ses true)).map (fun r => r.2.2) = P) := by show _ = _; rw [← hP]; exact HH.out.rw.names ses true (HH.out.np ses)
  have hcl : C.length ≤ 1024 := by rw [← hC, sortS_len]; have := HH.out.a.few ses; omega
  have hpl : P.length ≤ 1024 := by rw [← hP, sortS_len]; have := HH.out.a.few ses; omega
  clear hZ hz hcr hcn hC hP
  go_enter Tryz.func6, Tryz.ntmps6
  go_upto_region 1 with (fail)
  rw [HW1.out]
  have hb0 := HB1.out
  have d0 : w1.cell? ⟨w.heap.size, 0, none⟩ = some (.int .i64 who) := cell_of_blk hb0 0
  have d1 : w1.cell? ⟨w.heap.size, 1, none⟩ = some (.int .i64 7) := cell_of_blk hb0 1
  have d2 : w1.cell? ⟨w.heap.size, 2, none⟩ = some (.int .i64 ses) := cell_of_blk hb0 2
  have d3 : w1.cell? ⟨w.heap.size, 3, none⟩ = some (.string k) := cell_of_blk hb0 3
  have d4 : w1.cell? ⟨w.heap.size, 4, none⟩ = some (.string text) := cell_of_blk hb0 4
  have d5 : w1.cell? ⟨w.heap.size, 5, none⟩ = some (.int .i64 big) := cell_of_blk hb0 5
  clear hb0
  go_upto_region 39 with (fail)
  go_cut [215] from 207 to 215 (fun t215 wx => t215 = .bool false ∧ Hid (Fr (fun _ => False) w1 wx))
  case first =>
    go_region_law (first
      | (go_simp; go_at_call 8; ((with_reducible refine (HN.out _ (by first | assumption | exact Fr.drew (fun _ => False) _)).mono ?_); rintro e wn ⟨rfl, hfn⟩; have hST : Fr (fun _ => False) w1 wn := Fr.wide (by first | assumption | exact Fr.drew (fun _ => False) _) hfn (fun _ h => h.elim); have s0 := HCL.out 0 _ _ hST rfl; have s1 := HCL.out 1 _ _ hST rfl; have s2 := HCL.out 2 _ _ hST rfl; have s3 := HCL.out 3 _ _ hST rfl; have s4 := HCL.out 4 _ _ hST rfl; have s5 := HCL.out 5 _ _ hST rfl; clear hfn; dsimp only))
      | (go_simp; go_at_call 21; ((with_reducible refine (HCH.out _ (by first | assumption | exact Fr.drew (fun _ => False) _)).mono ?_); rintro e wn ⟨rfl, rfl⟩; dsimp only))
      | (go_simp; go_at_call 22; ((with_reducible refine (HCR.out _ (by first | assumption | exact Fr.drew (fun _ => False) _)).mono ?_); rintro e wn ⟨rfl, hfn⟩; have hST : Fr (fun _ => False) w1 wn := Fr.wide (by first | assumption | exact Fr.drew (fun _ => False) _) hfn (fun _ h => h.elim); have s0 := HCL.out 0 _ _ hST rfl; have s1 := HCL.out 1 _ _ hST rfl; have s2 := HCL.out 2 _ _ hST rfl; have s3 := HCL.out 3 _ _ hST rfl; have s4 := HCL.out 4 _ _ hST rfl; have s5 := HCL.out 5 _ _ hST rfl; clear hfn; dsimp only)))
    all_goals
      go_wp2
      go_meet
      case rel => exact ⟨by simp, (by first | assumption | exact Fr.drew (fun _ => False) _)⟩
  case rest =>
  obtain ⟨rfl, HQ2⟩ := hcut
  clear d0 d1 d2 d3 d4 d5
  have HHc := Lib.hid (HH.out.quiet HQ2.out)
  have e2 := HCL.out 2 _ _ HQ2.out rfl
  clear HCH HCR HN
  go_wp2_with fail
  refine (chanO_any HHc.out.a ses hs HC.out).mono ?_
  rintro e wx2 ⟨ca, cc, rfl, hca, hf2⟩
  have HCA := Lib.hid hca
  have HF2 := Lib.hid hf2
  have HQ3 := Lib.hid (HQ2.out.wide hf2 (fun _ h => h.elim))
  have e3 := HCL.out 2 _ _ HQ3.out rfl
  clear hca hf2 e2
  go_wp2_with fail
  refine (chanO_any (HH.out.quiet HQ3.out).a ses hs HC.out).mono ?_
  rintro e wx3 ⟨da, dc, rfl, hda, hf3⟩
  have HDA := Lib.hid hda
  have HF3 := Lib.hid hf3
  have HQ4 := Lib.hid (HQ3.out.wide hf3 (fun _ h => h.elim))
  have e4 := HCL.out 2 _ _ HQ4.out rfl
  clear hda hf3 e3
  go_wp2_with fail
  refine (pattO_any (HH.out.quiet HQ4.out).a ses hs HP.out).mono ?_
  rintro e wx4 ⟨pa, pc, rfl, hpa, hf4⟩
  have HPA := Lib.hid hpa
  have HF4 := Lib.hid hf4
  have HQ5 := Lib.hid (HQ4.out.wide hf4 (fun _ h => h.elim))
  have e5 := HCL.out 2 _ _ HQ5.out rfl
  have HC4 := Lib.hid (ow_frT HCA.out (HF3.out.wide hf4 (fun _ h => h.elim)) (fun _ _ h => h))
  have HD4 := Lib.hid (ow_frT HDA.out hf4 (fun _ _ h => h))
  clear hpa hf4 e4
  have HRCH := fun (W : World) (hW : Fr (fun _ => False) w1 W) => refChannels_any (HH.out.b.quiet hW) (by have := HLN.out; omega) ses
  rw [HRC.out] at HRCH
  have HRPA := fun (W : World) (hW : Fr (fun _ => False) w1 W) => refPatterns_any (HH.out.b.quiet hW) (by have := HLN.out; omega) ses
  rw [HRP.out] at HRPA
  have HRCH := Lib.hid HRCH
  have HRPA := Lib.hid HRPA
  go_wp2_with fail
  refine (HRCH.out _ HQ5.out).mono ?_
  rintro e wx5 ⟨ma, mc, rfl, hma, -, hf5⟩
  have HQ6 := Lib.hid (HQ5.out.wide hf5 (fun _ h => h.elim))
  have HF5 := Lib.hid hf5
  have HSA := Lib.hid (same_self wx5 _ _ C (RdC.of_owns (ow_frT HC4.out hf5 (fun _ _ h => h))) hma)
  clear hma hf5 e5
  go_wp2_with fail
  refine HSA.out.mono ?_
  rintro e wx6 ⟨rfl, hf6⟩
  have HF6 := Lib.hid (HF5.out.wide hf6 (fun _ h => h.elim))
  have HQ7 := Lib.hid (HQ6.out.wide hf6 (fun _ h => h.elim))
  have e7 := HCL.out 2 _ _ HQ7.out rfl
  clear hf6
  go_wp2_with fail
  refine (HRPA.out _ HQ7.out).mono ?_
  rintro e wx7 ⟨na, nc, rfl, hna, -, hf7⟩
  have HF7 := Lib.hid (HF6.out.wide hf7 (fun _ h => h.elim))
  have HSB := Lib.hid (same_self wx7 _ _ P (RdC.of_owns (ow_frT HPA.out HF7.out (fun _ _ h => h))) hna)
  clear hna hf7 e7
  go_wp2_with fail
  refine HSB.out.mono ?_
  rintro e wx8 ⟨rfl, hf8⟩
  have HF8 := Lib.hid (HF7.out.wide hf8 (fun _ h => h.elim))
  have HQ8 := Lib.hid (HQ5.out.wide HF8.out (fun _ h => h.elim))
  have HC8 := Lib.hid (ow_frT HC4.out HF8.out (fun _ _ h => h))
  have HD8 := Lib.hid (ow_frT HD4.out HF8.out (fun _ _ h => h))
  have HP8 := Lib.hid (ow_frT HPA.out HF8.out (fun _ _ h => h))
  have HCB := Lib.hid (ow_lt HCA.out)
  have HDB := Lib.hid (ow_lt HDA.out)
  have HPB := Lib.hid (ow_lt HPA.out)
  clear hf8
  go_wp2_with fail
  go_loopw [246] (fun i wr => ∃ j : Nat, i = .int .i64 j ∧ j ≤ C.length ∧ Hid (∃ ys, wr.ownsRow wc.heap.size 9 1 (.slice ca C.length cc) C.length ys) ∧ Hid (Fr (fun g => (Value.slice ca C.length cc).ownBlock = some g) wx8 wr)) (fun i _ => C.length - (intOf i).toNat)
  case atStart => exact ⟨0, rfl, by omega, ⟨_, HC8.out⟩, Fr.refl _ _⟩
  case round =>
    obtain ⟨j, rfl, hj, HO, HF⟩ := hrel
    obtain ⟨wo, rfl⟩ : ∃ wo, wo = wr := ⟨_, rfl⟩
    obtain ⟨ys, hys⟩ := HO.out
    have HY := Lib.hid hys
    clear hys
    by_cases hlt : j < C.length
    · obtain ⟨g, cap, e, -, -⟩ := HY.out.form (by omega)
      cases e
      have hlen := HY.out.1
      obtain ⟨y, hy⟩ : ∃ y, ys[j]? = some y := ⟨_, List.getElem?_eq_getElem (by omega)⟩
      have hc : wo.cell? ⟨g, j, none⟩ = some y := (HY.out.cellAt j (by omega)).trans hy
      have hz := HY.out.frozenAt j
      have HST := Lib.hid (HY.out.stored j (.string ⟨#[115, 112, 111, 105, 108, 116]⟩)).1
      have b0 : (0 : Int) ≤ (j : Int) := by omega
      have b1 : (j : Int) < (C.length : Int) := by omega
      clear hlen hy HO
      go_wp2_with fail
      go_roundw
      case rel => exact ⟨j + 1, by go_num, by omega, ⟨_, HST.out⟩, HF.out.thenSet _ _ (fun _ => rfl)⟩
      case measure => simp [intOf]; omega
    · clear HO
      have HP9 := Lib.hid (ow_frT HP8.out HF.out (fun g h1 h2 => by have := (HCB.out g h2).2; have := (HPB.out g h1).1; have := HF3.out.size; omega))
      go_wp2_with fail
      go_loopw [255] (fun i wr => ∃ j : Nat, i = .int .i64 j ∧ j ≤ P.length ∧ Hid (∃ ys, wr.ownsRow wx3.heap.size 9 1 (.slice pa P.length pc) P.length ys) ∧ Hid (Fr (fun g => (Value.slice pa P.length pc).ownBlock = some g) wo wr)) (fun i _ => P.length - (intOf i).toNat)
      case atStart => exact ⟨0, rfl, by omega, ⟨_, HP9.out⟩, Fr.refl _ _⟩
      case round =>
        obtain ⟨j2, rfl, hj2, HO2, HF9⟩ := hrel
        obtain ⟨wy, rfl⟩ : ∃ wo, wo = wr := ⟨_, rfl⟩
        obtain ⟨zs, hzs⟩ := HO2.out
        have HZ := Lib.hid hzs
        clear hzs
        by_cases hlt2 : j2 < P.length
        · obtain ⟨g, cap, e, -, -⟩ := HZ.out.form (by omega)
          cases e
          have hlen := HZ.out.1
          obtain ⟨y, hy⟩ : ∃ y, zs[j2]? = some y := ⟨_, List.getElem?_eq_getElem (by omega)⟩
          have hc : wy.cell? ⟨g, j2, none⟩ = some y := (HZ.out.cellAt j2 (by omega)).trans hy
          have hz := HZ.out.frozenAt j2
          have HST := Lib.hid (HZ.out.stored j2 (.string ⟨#[115, 112, 111, 105, 108, 116]⟩)).1
          have b0 : (0 : Int) ≤ (j2 : Int) := by omega
          have b1 : (j2 : Int) < (P.length : Int) := by omega
          clear hlen hy HO2
          go_wp2_with fail
          go_roundw
          case rel => exact ⟨j2 + 1, by go_num, by omega, ⟨_, HST.out⟩, HF9.out.thenSet _ _ (fun _ => rfl)⟩
          case measure => simp [intOf]; omega
        · clear HO2
          have hT : Fr (fun g => (Value.slice ca C.length cc).ownBlock = some g ∨ (Value.slice pa P.length pc).ownBlock = some g) wx8 wy := (HF.out.mono (fun i h _ => .inl h)).wide HF9.out (fun i h => .inl (.inr h))
          have hlo : ∀ g, ((Value.slice ca C.length cc).ownBlock = some g ∨ (Value.slice pa P.length pc).ownBlock = some g) → w1.heap.size ≤ g := fun g hg => by
            rcases hg with hg | hg
            · have := (HCB.out g hg).1; have := HQ2.out.size; omega
            · have := (HPB.out g hg).1; have := HQ4.out.size; omega
          have HPX : Hid (PairX wy B F G N h m fc fp v R) := by
            have H8 := HH.out.quiet HQ8.out
            exact ⟨H8.a.other hT (fun i hi hg => by have := hlo i hg; have := (HH.out.a.lt i hi).2; omega), H8.b.other hT (fun i hi hg => by have := hlo i hg; have := (HH.out.b.lt i hi).2; omega), H8.ap, H8.sm, H8.rw, H8.len⟩
          have HDY := Lib.hid (ow_frT HD8.out hT (fun g h1 h2 => by
            have hd := HDB.out g h1
            rcases h2 with h2 | h2
            · have := (HCB.out g h2).2; omega
            · have := (HPB.out g h2).1; omega))
          have hbw := blk_later (blk_later HB1.out HQ8.out (fun h => h)) hT (fun hg => by have := hlo _ hg; omega)
          have HCL2 : Hid (∀ (W : World), Fr (fun _ => False) wy W → W.cell? ⟨w.heap.size, 2, none⟩ = some (.int .i64 ses)) := fun W hW => cell_of_blk (blk_later hbw hW (fun h => h)) 2
          have HG : Hid (∀ W, Fr (fun _ => False) wy W → Fr S w W ∧ PairE W B (Grew S w W) N h m) := fun W hW => by
            have hF : Fr S w W := ((HQ1.out.wide HQ8.out (fun _ h => h.elim)).mono (fun _ h _ => h.elim)).wide (hT.wide hW (fun _ h => h.elim)) (fun i hi => .inr (by have := hlo i hi; have := HQ1.out.size; omega))
            have HX := HPX.out.quiet hW
            exact ⟨hF, F, G, fc, fp, v, R, ⟨HX.a, HX.b, HX.ap, HX.sm, HX.rw, HLN.out⟩, fun i hi => .inl (HS.out i hi), grew_lt HL.out hB hF.size⟩
          have hrch := fun (W : World) (hW : Fr (fun _ => False) wy W) => refChannels_any (HPX.out.b.quiet hW) (by have := HLN.out; omega) ses
          rw [HRC.out] at hrch
          have hrpa := fun (W : World) (hW : Fr (fun _ => False) wy W) => refPatterns_any (HPX.out.b.quiet hW) (by have := HLN.out; omega) ses
          rw [HRP.out] at hrpa
          have HRCH2 := Lib.hid hrch
          have HRPA2 := Lib.hid hrpa
          have HHPA : Hid (∀ W, Fr (fun _ => False) wy W → Calls Tryz.prog 24 #[.pointer (some ⟨h, 0, none⟩), .int .i64 ses] W (NamesC W P)) := fun W hW => patt_any (HPX.out.quiet hW).a ses hs HP.out
          have e9 : wy.cell? ⟨w.heap.size, 2, none⟩ = some (.int .i64 ses) := HCL2.out wy (Fr.refl _ _)
          clear hT hlo hbw hrch hrpa HRCH HRPA
          unfold NamesC at HRCH2 HRPA2 HHPA
          go_upto_region 56 with (fail)
          go_region_law (first
            | (go_simp; go_at_call 26; ((with_reducible refine (HRCH2.out _ (by first | assumption | exact Fr.drew (fun _ => False) _)).mono ?_); rintro e wn ⟨ua, uc, rfl, hua, -, hfn⟩; have hST : Fr (fun _ => False) wy wn := Fr.wide (by first | assumption | exact Fr.drew (fun _ => False) _) hfn (fun _ h => h.elim); have hDD := RdC.of_owns (ow_frT HDY.out hST (fun _ _ h => h)); have s2 := HCL2.out _ hST; have HSS := Lib.hid (same_self wn _ _ C hDD hua); clear hfn hDD hua; dsimp only))
            | (go_simp; go_at_call 25; ((with_reducible refine HSS.out.mono ?_); rintro e wn2 ⟨rfl, hfn⟩; have hST2 : Fr (fun _ => False) wy wn2 := Fr.wide hST hfn (fun _ h => h.elim); have s2 := HCL2.out _ hST2; clear hfn HSS hST; dsimp only))
            | (go_simp; go_at_call 24; ((with_reducible refine (HHPA.out _ (by assumption)).mono ?_); rintro e wn3 ⟨ua2, uc2, rfl, hph, -, hfn⟩; have hST3 : Fr (fun _ => False) wy wn3 := Fr.wide (by assumption) hfn (fun _ h => h.elim); have s2 := HCL2.out _ hST3; (try (have hpm := hpm.fr hfn (fun _ _ h => h))); clear hfn; dsimp only))
            | (go_simp; go_at_call 27; ((with_reducible refine (HRPA2.out _ (by assumption)).mono ?_); rintro e wn4 ⟨ua3, uc3, rfl, hpm, -, hfn⟩; have hST4 : Fr (fun _ => False) wy wn4 := Fr.wide (by assumption) hfn (fun _ h => h.elim); have s2 := HCL2.out _ hST4; (try (have hph := hph.fr hfn (fun _ _ h => h))); clear hfn; dsimp only))
            | (go_simp; go_at_call 25; ((with_reducible refine (same_self _ _ _ P hph hpm).mono ?_); rintro e wn5 ⟨rfl, hfn⟩; have hST5 : Fr (fun _ => False) wy wn5 := Fr.wide (by assumption) hfn (fun _ h => h.elim); clear hfn; dsimp only)))
          all_goals
            go_wp2
            go_ret
            exact ⟨by simp, HG.out _ hST5⟩
end Go.Proofs.YtleoeccjnchclaaGreatDoor

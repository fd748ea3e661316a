/- The document's hub: Tell. No condition but sizes. -/
import Derived.Test.YtleoeccjnchclaaGreatDoorZba
import Derived.Test.YtleoeccjnchclaaGreatDoorZax
import Derived.Test.YtleoeccjnchclaaGreatDoorZay
namespace Go.Proofs.YtleoeccjnchclaaGreatDoor
open Go.RowKit
theorem flat_rowT (R : List Rw) (k text : ByteArray) (j : Nat) (hj : j < R.length) : (R.take (j + 1)).flatMap (rowT k text) = (R.take j).flatMap (rowT k text) ++ rowT k text R[j] := by
  rw [List.take_succ_eq_append_getElem hj, List.flatMap_append, List.flatMap_singleton]
theorem rowT_len (k text : ByteArray) (R : List Rw) : (R.flatMap (rowT k text)).length ≤ R.length := by
  induction R with
  | nil => exact Nat.le_refl _
  | cons r R ih =>
    rw [List.flatMap_cons, List.length_append, List.length_cons]
    have : (rowT k text r).length ≤ 1 := by
      unfold rowT
      split
      · exact Nat.le_refl _
      · split
        · exact Nat.le_refl _
        · exact Nat.zero_le _
    omega
section
variable {w : World} {B m : Nat} {F : Nat → Prop} {v : Value} {R : List Rw}
set_option maxRecDepth 100000 in
set_option maxHeartbeats 8000000 in
theorem refTell_any (H : RefH w B F m v R) (hl : R.length ≤ 2199023255488) (hsm : ∀ r ∈ R, r.2.2.size ≤ 1024) (kk text : ByteArray) (hkk : kk.size ≤ 140737488361472) :
    Calls Tryz.prog 18 #[.pointer (some ⟨m, 0, none⟩), .string kk, .string text] w (TellC w (R.flatMap (rowT kk text))) := by
  have c0 := H.cell
  obtain ⟨a, c, rfl⟩ := H.slot
  have HR := Lib.hid (RdC.of_owns H.row)
  obtain ⟨i0, hi, hz0, hz1, hz2⟩ := info_parts info_out
  have HI := Lib.hid hi
  have HZ0 := Lib.hid hz0
  have HZ1 := Lib.hid hz1
  have HZ2 := Lib.hid hz2
  have HSM := Lib.hid hsm
  clear H hi hz0 hz1 hz2 hsm
  go_enter Tryz.func18, Tryz.ntmps18
  go_wp2
  go_loopw [7, 17] (fun ov i wr => ∃ (k n : Nat), i = .int .i64 k ∧ k ≤ R.length ∧ n ≤ k ∧ Hid (n = ((R.take k).flatMap (rowT kk text)).length) ∧ Hid (OutsAt wr w.heap.size ov ((R.take k).flatMap (rowT kk text))) ∧ Hid (Fr (fun _ => False) w wr)) (fun _ i _ => R.length - (intOf i).toNat)
  case atStart => exact ⟨0, 0, rfl, by omega, by omega, (show 0 = _ by simp), (by show OutsAt _ _ _ _; rw [List.take_zero, List.flatMap_nil]; exact OutsAt.nil _ _), Fr.refl _ _⟩
  case round =>
    obtain ⟨k, n, rfl, hk, hn, HN, HO, HF⟩ := hrel
    obtain ⟨wo, rfl⟩ : ∃ x, x = wr := ⟨_, rfl⟩
    obtain ⟨ov, rfl⟩ : ∃ x, x = u7 := ⟨_, rfl⟩
    have HO' := HO.out
    obtain ⟨oa, oc, rfl, hlow⟩ := out_slice HO'
    rw [← HN.out]
    have HLOW : Hid (∀ g, (Value.slice oa n oc).ownBlock = some g → w.heap.size ≤ g ∧ g < wo.heap.size) := by rw [HN.out]; exact hlow
    have HOX : Hid (OutsAt wo w.heap.size (.slice oa n oc) ((R.take k).flatMap (rowT kk text))) := by rw [HN.out]; exact HO'
    clear HO HO' hlow
    by_cases hlt : k < R.length
    · obtain ⟨g, off, rfl, x0, x1, x2⟩ := rw_at (HR.out.fr HF.out (fun _ _ h => h)) k hlt
      have hft := flat_rowT R kk text k hlt
      have hrs := HSM.out R[k] (List.getElem_mem hlt)
      obtain ⟨r, hr⟩ : ∃ r, R[k] = r := ⟨_, rfl⟩
      rw [hr] at x0 x1 x2 hft hrs
      obtain ⟨rs, rl, rn⟩ := r
      dsimp only at x0 x1 x2 hrs
      have HFT := Lib.hid hft
      have b0 : (0 : Int) ≤ (k : Int) := by omega
      have b1 : (k : Int) < (R.length : Int) := by omega
      obtain ⟨wa, hwa⟩ : ∃ x, wo.alloc (.cells #[.int .i64 rs, .bool rl, .string rn] 58) = x := ⟨_, rfl⟩
      have hblk : wa.heap[wo.heap.size]? = some (.cells #[.int .i64 rs, .bool rl, .string rn] 58 (0, 0)) := by rw [← hwa]; exact alloc_at wo _
      have hfa : Fr (fun _ => False) wo wa := by rw [← hwa]; exact Fr.alloc _ _ _
      have t0 : wa.cell? ⟨wo.heap.size, 0, none⟩ = some (.int .i64 rs) := cell_of_blk hblk 0
      have t1 : wa.cell? ⟨wo.heap.size, 1, none⟩ = some (.bool rl) := cell_of_blk hblk 1
      have t2 : wa.cell? ⟨wo.heap.size, 2, none⟩ = some (.string rn) := cell_of_blk hblk 2
      have HWA := Lib.hid hwa
      have HBK := Lib.hid hblk
      have HFA := Lib.hid (HF.out.wide hfa (fun _ h => h.elim))
      have HOA := Lib.hid (HOX.out.quiet hfa)
      have HLO : Hid (∀ g, (Value.slice oa n oc).ownBlock = some g → w.heap.size ≤ g ∧ g < wo.heap.size) := HLOW.out
      have HLA : Hid (∀ g, (Value.slice oa n oc).ownBlock = some g → w.heap.size ≤ g ∧ g < wa.heap.size) := fun g hg => ⟨(HLOW.out g hg).1, Nat.lt_of_lt_of_le (HLOW.out g hg).2 hfa.size⟩
      have hba : wo.heap.size < wa.heap.size := (Array.getElem?_eq_some_iff.1 hblk).1
      clear hr hft hwa hblk hfa HLOW HOX HF
      cases rl with
      | false =>
        by_cases e : rn = kk
        · have HRT : Hid (rowT kk text (rs, false, rn) = [msgL rs kk text]) := by show _ = _; unfold rowT; rw [if_pos ⟨rfl, e⟩]
          have hq : (rn.toList == kk.toList) = true := by rw [str_beq]; simpa using e
          obtain ⟨T, hT⟩ : ∃ T, (R.take k).flatMap (rowT kk text) = T := ⟨_, rfl⟩
          have hTn : T.length = n := by rw [← hT]; exact HN.out.symm
          have HTT := Lib.hid hT
          have HTN := Lib.hid hTn
          rw [hT] at HOA
          clear e hT
          go_upto_region 7 with (fail)
          rw [HWA.out]
          obtain ⟨vals, q1, q2, q3⟩ := HOA.out
          rw [hTn] at q1 q2
          obtain ⟨X, hX⟩ : ∃ X, (T.zip vals).flatMap outC = X := ⟨_, rfl⟩
          rw [hX] at q2
          have HQ2 := Lib.hid q2
          have HBU := Lib.hid (bulks16_any (wa.alloc (.cells #[.string ⟨#[109, 101, 115, 115, 97, 103, 101]⟩, .string kk, .string text] 9)).drew (.slice (some ⟨wa.heap.size, 0, none⟩) 3 3) [⟨#[109, 101, 115, 115, 97, 103, 101]⟩, kk, text] ((RdC.of_owns (World.ownsRow_lit (base := 0) (e := 9) (size := 1) wa #[.string ⟨#[109, 101, 115, 115, 97, 103, 101]⟩, .string kk, .string text] 3 (Nat.zero_le _) (by decide) rfl)).fr (Fr.drew (fun _ => False) _) (fun _ _ h => h)) (by simp))
          unfold BulksPost at HBU
          clear q1 q2 q3 hX
          go_upto_region 8 with (fail)
          go_region_law (first
            | (go_simp; go_at_call 32; ((with_reducible refine HBU.out.mono ?_); rintro e w7 ⟨u, rfl, hu, hf7⟩; obtain ⟨ua, uc, rfl⟩ := ow_sliceN hu; have hf07 : Fr (fun _ => False) wa w7 := ((Fr.alloc (fun _ => False) wa _).thenDrew).trans hf7 (fun _ h _ => h); have HU := Lib.hid (ow_baseT hu (show w.heap.size ≤ _ from Nat.le_trans HFA.out.size ((Fr.alloc (fun _ => False) wa (.cells #[.string ⟨#[109, 101, 115, 115, 97, 103, 101]⟩, .string kk, .string text] 9)).thenDrew).size)); have HF7 := Lib.hid hf07; have HR7 := Lib.hid (ow_frT HQ2.out hf07 (fun _ _ h => h)); have hbk7 := blk_later HBK.out hf07 (fun h => h); have s0 : w7.cell? ⟨wo.heap.size, 0, none⟩ = some (.int .i64 rs) := cell_of_blk hbk7 0; have s1 : w7.cell? ⟨wo.heap.size, 1, none⟩ = some (.bool false) := cell_of_blk hbk7 1; have s2 : w7.cell? ⟨wo.heap.size, 2, none⟩ = some (.string rn) := cell_of_blk hbk7 2; have HBK7 := Lib.hid hbk7; have hs7 : w.heap.size ≤ w7.heap.size := Nat.le_trans HFA.out.size hf07.size; clear hu hf7 hf07 hbk7; dsimp only))
            | (refine step_append2 (by rfl) (.tmp 30) (.tmp 38) 44 (by rfl) w.heap.size 51 i0 (.agg #[.int .i64 0, .int .i64 0, .string ⟨#[]⟩, .int .i64 0, .slice none 0 0]) 5 64 Tryz.underlying44 HI.out HZ0.out HZ1.out HZ2.out rfl (by decide) (.slice oa n oc) n X (by rfl) (HR7.out.alloc _) (.slice (some ⟨w7.heap.size, 0, none⟩) 1 1) 1 [.int .i64 rs, .int .i64 6, .string ⟨#[]⟩, .int .i64 0, .slice ua 3 uc] (by rfl) (lit_oneR w7 #[.int .i64 rs, .int .i64 6, .string ⟨#[]⟩, .int .i64 0, .slice ua 3 uc] 51 5 rfl) (by simp [Value.oneCell']) (by unfold maxLen; omega) (by omega) (by rw [World.size_alloc]; omega) ?_; intro v8 w8 hown hgrow hlie; obtain ⟨a8, c8, rfl⟩ := ow_sliceN hown; have HO8 := Lib.hid hown; have HG8 := Lib.hid hgrow; clear hown hgrow hlie))
          all_goals
            have HO9 : Hid (OutsAt w8 w.heap.size (.slice a8 (n + 1) c8) ((R.take (k + 1)).flatMap (rowT kk text))) := by
              show OutsAt _ _ _ _
              rw [HFT.out, HRT.out, HTT.out]
              exact HOA.out.snoc (w1 := w7.alloc (.cells #[.int .i64 rs, .int .i64 6, .string ⟨#[]⟩, .int .i64 0, .slice ua 3 uc] 51)) (HF7.out.thenAlloc _) (u := .slice ua 3 uc) (HU.out.alloc _) (by rw [HTN.out]; exact HQ2.out) (by rw [HTN.out]; exact HO8.out) (fun vals h1 h2 => by rw [HTN.out] at h2; exact own_uniq h2 HQ2.out) HG8.out
            have HF9 : Hid (Fr (fun _ => False) w w8) := ((HFA.out.wide HF7.out (fun _ h => h.elim)).thenAlloc _).wide (Fr.of_grownBy HG8.out) (fun i hi => .inr (HLO.out i hi).1)
            have HN9 : Hid (n + 1 = ((R.take (k + 1)).flatMap (rowT kk text)).length) := by show _ = _; rw [HFT.out, HRT.out, HTT.out, List.length_append, HTN.out]; rfl
            have hbk8 := blk_later (blk_later HBK7.out (Fr.alloc (fun _ => False) w7 (.cells #[.int .i64 rs, .int .i64 6, .string ⟨#[]⟩, .int .i64 0, .slice ua 3 uc] 51)) (fun h => h)) (Fr.of_grownBy HG8.out) (fun e => by have := (HLO.out _ e).2; omega)
            have r1 : w8.cell? ⟨wo.heap.size, 1, none⟩ = some (.bool false) := cell_of_blk hbk8 1
            clear hbk8
            go_wp2
            go_roundw
            case rel => exact ⟨k + 1, n + 1, by go_num, by omega, by omega, HN9, HO9, HF9⟩
            case measure => simp [intOf]; omega
        · have hq : (rn.toList == kk.toList) = false := by rw [str_beq]; simpa using e
          have hrt : rowT kk text (rs, false, rn) = [] := by unfold rowT; rw [if_neg (by intro h; exact e h.2), if_neg (by intro h; cases h.1)]
          have HN2 : Hid (n = ((R.take (k + 1)).flatMap (rowT kk text)).length) := by show _ = _; rw [HFT.out, hrt, List.append_nil]; exact HN.out
          have HO2 : Hid (OutsAt wa w.heap.size (.slice oa n oc) ((R.take (k + 1)).flatMap (rowT kk text))) := by show OutsAt _ _ _ _; rw [HFT.out, hrt, List.append_nil]; exact HOA.out
          clear e hrt
          go_upto_region 7 with (fail)
          rw [HWA.out]
          go_wp2
          go_roundw
          case rel => exact ⟨k + 1, n, by go_num, by omega, by omega, HN2, HO2, HFA⟩
          case measure => simp [intOf]; omega
      | true =>
        have HMA := Lib.hid (match_ref rn kk wa (by omega) hkk)
        rw [show means (signs (bl rn)) (bl kk) = gm rn kk from rfl] at HMA
        go_upto_region 7 with (fail)
        rw [HWA.out]
        go_wp2_with fail
        refine HMA.out.mono ?_
        rintro e wb ⟨rfl, hbb⟩
        have hfb : Fr (fun _ => False) wa wb := (Fr.of_below hbb).mono fun _ hi hk => absurd hk (by omega)
        have HFB := Lib.hid (HFA.out.wide hfb (fun _ h => h.elim))
        have HOB := Lib.hid (HOA.out.quiet hfb)
        have hbkb := blk_later HBK.out hfb (fun h => h)
        have p0 : wb.cell? ⟨wo.heap.size, 0, none⟩ = some (.int .i64 rs) := cell_of_blk hbkb 0
        have p1 : wb.cell? ⟨wo.heap.size, 1, none⟩ = some (.bool true) := cell_of_blk hbkb 1
        have p2 : wb.cell? ⟨wo.heap.size, 2, none⟩ = some (.string rn) := cell_of_blk hbkb 2
        have HBKB := Lib.hid hbkb
        have hbab : wo.heap.size < wb.heap.size := Nat.lt_of_lt_of_le hba hfb.size
        clear hbb hfb hbkb
        cases hg : gm rn kk with
        | false =>
          have hrt : rowT kk text (rs, true, rn) = [] := by unfold rowT; rw [if_neg (by intro h; cases h.1), if_neg (by intro h; have h2 := h.2; rw [hg] at h2; cases h2)]
          have HN2 : Hid (n = ((R.take (k + 1)).flatMap (rowT kk text)).length) := by show _ = _; rw [HFT.out, hrt, List.append_nil]; exact HN.out
          have HO2 : Hid (OutsAt wb w.heap.size (.slice oa n oc) ((R.take (k + 1)).flatMap (rowT kk text))) := by show OutsAt _ _ _ _; rw [HFT.out, hrt, List.append_nil]; exact HOB.out
          clear hrt hg
          go_wp2
          go_roundw
          case rel => exact ⟨k + 1, n, by go_num, by omega, by omega, HN2, HO2, HFB⟩
          case measure => simp [intOf]; omega
        | true =>
          have HRT : Hid (rowT kk text (rs, true, rn) = [pmsgL rs rn kk text]) := by show _ = _; unfold rowT; rw [if_neg (by intro h; cases h.1), if_pos ⟨rfl, hg⟩]
          obtain ⟨T, hT⟩ : ∃ T, (R.take k).flatMap (rowT kk text) = T := ⟨_, rfl⟩
          have hTn : T.length = n := by rw [← hT]; exact HN.out.symm
          have HTT := Lib.hid hT
          have HTN := Lib.hid hTn
          rw [hT] at HOB
          clear hT hg
          obtain ⟨vals, q1, q2, q3⟩ := HOB.out
          rw [hTn] at q1 q2
          obtain ⟨X, hX⟩ : ∃ X, (T.zip vals).flatMap outC = X := ⟨_, rfl⟩
          rw [hX] at q2
          have HQ2 := Lib.hid q2
          have HBU := Lib.hid (bulks16_any (wb.alloc (.cells #[.string ⟨#[112, 109, 101, 115, 115, 97, 103, 101]⟩, .string rn, .string kk, .string text] 9)).drew (.slice (some ⟨wb.heap.size, 0, none⟩) 4 4) [⟨#[112, 109, 101, 115, 115, 97, 103, 101]⟩, rn, kk, text] ((RdC.of_owns (World.ownsRow_lit (base := 0) (e := 9) (size := 1) wb #[.string ⟨#[112, 109, 101, 115, 115, 97, 103, 101]⟩, .string rn, .string kk, .string text] 4 (Nat.zero_le _) (by decide) rfl)).fr (Fr.drew (fun _ => False) _) (fun _ _ h => h)) (by simp))
          unfold BulksPost at HBU
          clear q1 q2 q3 hX
          go_upto_region 10 with (fail)
          go_region_law (first
            | (go_simp; go_at_call 32; ((with_reducible refine HBU.out.mono ?_); rintro e w7 ⟨u, rfl, hu, hf7⟩; obtain ⟨ua, uc, rfl⟩ := ow_sliceN hu; have hf07 : Fr (fun _ => False) wb w7 := ((Fr.alloc (fun _ => False) wb _).thenDrew).trans hf7 (fun _ h _ => h); have HU := Lib.hid (ow_baseT hu (show w.heap.size ≤ _ from Nat.le_trans HFB.out.size ((Fr.alloc (fun _ => False) wb (.cells #[.string ⟨#[112, 109, 101, 115, 115, 97, 103, 101]⟩, .string rn, .string kk, .string text] 9)).thenDrew).size)); have HF7 := Lib.hid hf07; have HR7 := Lib.hid (ow_frT HQ2.out hf07 (fun _ _ h => h)); have hbk7 := blk_later HBKB.out hf07 (fun h => h); have s0 : w7.cell? ⟨wo.heap.size, 0, none⟩ = some (.int .i64 rs) := cell_of_blk hbk7 0; have s1 : w7.cell? ⟨wo.heap.size, 1, none⟩ = some (.bool true) := cell_of_blk hbk7 1; have s2 : w7.cell? ⟨wo.heap.size, 2, none⟩ = some (.string rn) := cell_of_blk hbk7 2; have HBK7 := Lib.hid hbk7; have hs7 : w.heap.size ≤ w7.heap.size := Nat.le_trans HFB.out.size hf07.size; clear hu hf7 hf07 hbk7; dsimp only))
            | (refine step_append2 (by rfl) (.tmp 48) (.tmp 58) 44 (by rfl) w.heap.size 51 i0 (.agg #[.int .i64 0, .int .i64 0, .string ⟨#[]⟩, .int .i64 0, .slice none 0 0]) 5 64 Tryz.underlying44 HI.out HZ0.out HZ1.out HZ2.out rfl (by decide) (.slice oa n oc) n X (by rfl) (HR7.out.alloc _) (.slice (some ⟨w7.heap.size, 0, none⟩) 1 1) 1 [.int .i64 rs, .int .i64 6, .string ⟨#[]⟩, .int .i64 0, .slice ua 4 uc] (by rfl) (lit_oneR w7 #[.int .i64 rs, .int .i64 6, .string ⟨#[]⟩, .int .i64 0, .slice ua 4 uc] 51 5 rfl) (by simp [Value.oneCell']) (by unfold maxLen; omega) (by omega) (by rw [World.size_alloc]; omega) ?_; intro v8 w8 hown hgrow hlie; obtain ⟨a8, c8, rfl⟩ := ow_sliceN hown; have HO8 := Lib.hid hown; have HG8 := Lib.hid hgrow; clear hown hgrow hlie))
          all_goals
            have HO9 : Hid (OutsAt w8 w.heap.size (.slice a8 (n + 1) c8) ((R.take (k + 1)).flatMap (rowT kk text))) := by
              show OutsAt _ _ _ _
              rw [HFT.out, HRT.out, HTT.out]
              exact HOB.out.snoc (w1 := w7.alloc (.cells #[.int .i64 rs, .int .i64 6, .string ⟨#[]⟩, .int .i64 0, .slice ua 4 uc] 51)) (HF7.out.thenAlloc _) (u := .slice ua 4 uc) (HU.out.alloc _) (by rw [HTN.out]; exact HQ2.out) (by rw [HTN.out]; exact HO8.out) (fun vals h1 h2 => by rw [HTN.out] at h2; exact own_uniq h2 HQ2.out) HG8.out
            have HF9 : Hid (Fr (fun _ => False) w w8) := ((HFB.out.wide HF7.out (fun _ h => h.elim)).thenAlloc _).wide (Fr.of_grownBy HG8.out) (fun i hi => .inr (HLO.out i hi).1)
            have HN9 : Hid (n + 1 = ((R.take (k + 1)).flatMap (rowT kk text)).length) := by show _ = _; rw [HFT.out, HRT.out, HTT.out, List.length_append, HTN.out]; rfl
            go_wp2
            go_roundw
            case rel => exact ⟨k + 1, n + 1, by go_num, by omega, by omega, HN9, HO9, HF9⟩
            case measure => simp [intOf]; omega
    · obtain rfl : k = R.length := by omega
      have hn2 := HN.out
      rw [List.take_length] at hn2
      have ho := HOX.out
      rw [List.take_length] at ho
      have HE := Lib.hid ho
      have HNB : Hid (n ≤ 2199023255488) := by show n ≤ _; omega
      clear ho
      go_wp2
      go_ret
      subst hn2
      exact ⟨oa, oc, rfl, HE.out, HF.out, HNB.out⟩
end
end Go.Proofs.YtleoeccjnchclaaGreatDoor

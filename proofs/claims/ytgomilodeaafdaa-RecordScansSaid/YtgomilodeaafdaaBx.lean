/- The walk of RecordScans. No condition. -/
import Derived.Test.YtgomilodeaafdaaBn
import Derived.Test.YtgomilodeaafdaaBw
namespace Go.Proofs.Ytgomilodeaafdaa
open Go.ChangeShapes Go.WideShapes Go.ChangeAt Go.RowKit Ds
open Go.ChangeMaps (open_string shut_string)
structure Ss (K : Nat) (w0 w : World) (r d : Nat) (F : Nat → Prop) (M : DM) (A : List Pr) (va : Value) (al : List Pr) (vt : Value) (told : List ByteArray) (c : Nat) : Prop where
  rc : Rc K w0 w F r d M A
  ra : RowP w0.heap.size w va al
  rt : RowS w0.heap.size w vt told
  aa : Aw F va
  at_ : Aw F vt
  nd : (al.map (·.1)).Nodup
  sub : ∀ x ∈ al.map (·.1), x ∈ A.map (·.1)
  tld : Tld M.seed c told (al.map (·.1))
section
variable {K K' : Nat} {w0 w w' : World} {r d : Nat} {F : Nat → Prop} {M : DM} {A A' : List Pr} {va vt : Value} {al : List Pr} {told : List ByteArray} {c : Nat}
theorem Ss.quiet (h : Ss K w0 w r d F M A va al vt told c) (hf : Fr (fun _ => False) w w') : Ss K w0 w' r d F M A va al vt told c :=
  ⟨h.rc.quiet hf, ow_fr h.ra hf (fun _ _ h => h), ow_fr h.rt hf (fun _ _ h => h), h.aa, h.at_, h.nd, h.sub, h.tld⟩
theorem Ss.mono (h : Ss K w0 w r d F M A va al vt told c) (hk : K ≤ K') : Ss K' w0 w r d F M A va al vt told c := ⟨h.rc.mono hk, h.ra, h.rt, h.aa, h.at_, h.nd, h.sub, h.tld⟩
theorem Ss.turn (h : Ss K w0 w r d F M A va al vt told c) {M' : DM} (hrc : Rc K' w0 w' (Grew F w w') r d M' A') (hsd : M'.seed = M.seed) (hfr : Fr F w w') (hs : ∀ x ∈ al.map (·.1), x ∈ A'.map (·.1)) : Ss K' w0 w' r d (Grew F w w') M' A' va al vt told c :=
  ⟨hrc, ow_fr h.ra hfr h.aa, ow_fr h.rt hfr h.at_, h.aa.own h.ra, h.at_.own h.rt, h.nd, hs, by rw [hsd]; exact h.tld⟩
/-- what was told grows -/
theorem Ss.app (h : Ss K w0 w r d F M A va al vt told c) {vt' : Value} {told' : List ByteArray} {c' : Nat} (hr : RowS w0.heap.size w' vt' told') (hg : w.grownBy w' vt.ownBlock) (ha : ∀ g, vt'.ownBlock = some g → vt.ownBlock = some g ∨ w.heap.size ≤ g) (ht : Tld M.seed c' told' (al.map (·.1))) :
    Ss K w0 w' r d F M A va al vt' told' c' := by
  have hap := rows_apart h.ra h.rt (by decide)
  refine ⟨h.rc.other (Fr.of_grownBy hg) (fun i hi e => h.at_ i e hi) (fun i e => (own_blk h.rt e).1), ow_fr h.ra (Fr.of_grownBy hg) (fun g hgv e => hap g hgv e), hr, h.aa, fun g hgv hF => ?_, h.nd, h.sub, ht⟩
  rcases ha g hgv with h2 | h2
  · exact h.at_ g h2 hF
  · have := (h.rc.rf.lt g hF).2
    omega
end
theorem scan_small {K : Nat} {w0 w : World} {F : Nat → Prop} {r d : Nat} {M : DM} {A : List Pr} (h : Rc K w0 w F r d M A) (hK : K ≤ 131074) : M.old.length ≤ 262148 ∧ M.young.length ≤ 262148 ∧ M.n ≤ 131074 := by
  have h1 := h.lens.1
  have h2 := h.lens.2
  have h3 := h.count
  have h4 := h.few
  omega
/-- is a text among these? -/
def inT (l : List ByteArray) (s : ByteArray) : Bool := l.any fun y => decide (y = s)
theorem inT_iff {l : List ByteArray} {s : ByteArray} : inT l s = true ↔ s ∈ l := by unfold inT; rw [List.any_eq_true]; simp
/-- the block of a step -/
def uBlk (kd who : Int) (f s : ByteArray) (n ct : Int) : Obj := .cells #[.int .i64 kd, .int .i64 who, .string f, .string s, .int .u64 n, .int .i64 ct] 55 (0, 0)
theorem uBlk_cells {w : World} {b : Nat} {kd who n ct : Int} {f s : ByteArray} (h : w.heap[b]? = some (uBlk kd who f s n ct)) : w.cell? ⟨b, 0, none⟩ = some (.int .i64 kd) ∧ w.cell? ⟨b, 2, none⟩ = some (.string f) ∧ w.cell? ⟨b, 3, none⟩ = some (.string s) ∧ w.cell? ⟨b, 5, none⟩ = some (.int .i64 ct) :=
  ⟨cell_of_blk h 0, cell_of_blk h 2, cell_of_blk h 3, cell_of_blk h 5⟩
set_option maxRecDepth 100000 in
set_option maxHeartbeats 8000000 in
theorem recordScans_walk (w : World) (x0 : UInt64) (v1 : Value) (l : List St9B) (hr : RdC w 6 v1 l.length (l.flatMap st9)) (_hby : l.length * 64 ≤ reachBytes) (v2 : Value) (l3 : List St9B) (hr3 : RdC w 6 v2 l3.length (l3.flatMap st9)) (_hby3 : l3.length * 64 ≤ reachBytes) :
    Calls Try.prog 6 #[.int .u64 (wd x0), v1, v2] w fun e w' => e = .returned (.bool true) ∧ Below w.heap.size w w' := by
  have hk1 : Fits (⟨#[97, 108, 119, 97, 121, 115]⟩, ⟨#[116, 104, 101, 114, 101]⟩) := by unfold Fits; decide
  have HK1 := Lib.hid hk1
  have hll : l.length ≤ 9223372036854775807 := by have := hr.len; unfold maxLen at this; exact this
  have hll3 : l3.length ≤ 9223372036854775807 := by have := hr3.len; unfold maxLen at this; exact this
  have HR := Lib.hid hr
  have HR3 := Lib.hid hr3
  obtain ⟨-, a1, c1, rfl, -⟩ := hr
  obtain ⟨-, a2, c2, rfl, -⟩ := hr3
  obtain ⟨i0, hi, hz0, hz1, hz2⟩ := info_parts info_str
  have HI := Lib.hid hi
  have HZ0 := Lib.hid hz0
  have HZ1 := Lib.hid hz1
  have HZ2 := Lib.hid hz2
  clear hi hz0 hz1 hz2 hk1
  go_enter Try.func6, Try.ntmps6
  go_wp2_with fail
  refine (rc_new w w x0 (Below.refl _ _)).mono ?_
  rintro e w1 ⟨r, d, M0, F0, rfl, h0, -, -, -⟩
  have H0 := Lib.hid h0
  clear h0
  go_wp2_with fail
  refine (rc_set w w1 0 F0 r d M0 [] _ _ H0.out HK1.out (by decide)).mono ?_
  rintro e w3 ⟨rfl, M1, h3, -, -⟩
  have hne3 : setG ([] : List Pr) ⟨#[97, 108, 119, 97, 121, 115]⟩ ⟨#[116, 104, 101, 114, 101]⟩ ≠ [] := by rw [setG_none rfl]; simp
  obtain ⟨A1, hA1⟩ : ∃ A1, setG ([] : List Pr) ⟨#[97, 108, 119, 97, 121, 115]⟩ ⟨#[116, 104, 101, 114, 101]⟩ = A1 := ⟨_, rfl⟩
  rw [hA1] at h3 hne3
  have H3 := Lib.hid h3
  have HNE := Lib.hid hne3
  clear h3 hne3 hA1 H0
  go_wp2_with fail
  go_loopw [8] (fun i wr => ∃ (k : Nat) (F : Nat → Prop) (M : DM) (A : List Pr), i = .int .i64 k ∧ k ≤ l.length ∧ k ≤ 65536 ∧ Hid (A ≠ []) ∧ Hid (Rc (k + 1) w wr F r d M A)) (fun i _ => l.length - (intOf i).toNat)
  case atStart => exact ⟨0, _, M1, A1, rfl, by omega, by omega, HNE, H3⟩
  case round =>
    obtain ⟨k, F, M, A, rfl, hk, hk5, HNA, HD⟩ := hrel
    obtain ⟨wo, rfl⟩ : ∃ wo, wo = wr := ⟨_, rfl⟩
    clear HNE H3
    go_upto_region 6 with (fail)
    go_cut [35] from 28 to 35 (fun t wc => wc = wo ∧ t = .bool (decide (k < l.length ∧ k < 65536)))
    case first =>
      by_cases h1 : k < l.length
      · by_cases h2 : k < 65536
        · have hd : decide (k < l.length ∧ k < 65536) = true := decide_eq_true ⟨h1, h2⟩
          have HD2 := Lib.hid hd
          have q1 : (k : Int) < (l.length : Int) := by omega
          have q2 : (k : Int) < 65536 := by omega
          clear hd
          go_wp2
          go_meet
          case rel => exact ⟨rfl, by rw [HD2.out]⟩
        · have hd : decide (k < l.length ∧ k < 65536) = false := decide_eq_false (fun h => h2 h.2)
          have HD2 := Lib.hid hd
          have q1 : (k : Int) < (l.length : Int) := by omega
          have q2 : ¬ (k : Int) < 65536 := by omega
          clear hd
          go_wp2
          go_meet
          case rel => exact ⟨rfl, by rw [HD2.out]⟩
      · have hd : decide (k < l.length ∧ k < 65536) = false := decide_eq_false (fun h => h1 h.1)
        have HD2 := Lib.hid hd
        have q1 : ¬ (k : Int) < (l.length : Int) := by omega
        clear hd
        go_wp2
        go_meet
        case rel => exact ⟨rfl, by rw [HD2.out]⟩
    case rest =>
    obtain ⟨rfl, rfl⟩ := hcut
    obtain ⟨wo, rfl⟩ : ∃ x, x = wc := ⟨_, rfl⟩
    by_cases hgo : k < l.length ∧ k < 65536
    · rw [decide_eq_true hgo]
      obtain ⟨h1, h2⟩ := hgo
      obtain ⟨g, off, rfl, -, -, e2, -, -, -⟩ := st9_at (HR.out.below HD.out.bel) k h1
      obtain ⟨f, hff⟩ : ∃ x, l[k].1.field = x := ⟨_, rfl⟩
      have hfz : f.size ≤ maxLen := hff ▸ l[k].2.1
      rw [hff] at e2
      clear hff
      by_cases hfx : Fits (f, ⟨#[120]⟩)
      · have HFX := Lib.hid hfx
        clear hfx
        go_wp2_with fail
        refine (rc_set w wo (k + 1) F r d M A f _ HD.out HFX.out (by omega)).mono ?_
        rintro e w4 ⟨rfl, M', h4, -, -⟩
        have H4 := Lib.hid h4
        have HN4 : Hid (setG A f ⟨#[120]⟩ ≠ []) := by
          show _ ≠ []
          cases ha : fdG f A with
          | none => rw [setG_none ha]; simp
          | some i => rw [setG_some ha]; intro e; exact HNA.out (by simpa using e)
        clear h4
        go_wp2_with fail
        go_roundw
        case rel => exact ⟨k + 1, _, M', _, by go_num, by omega, by omega, HN4, H4⟩
        case measure => simp [intOf]; omega
      · go_wp2_with fail
        refine (recSet_long wo r f _ hfz (by decide) hfx).mono ?_
        rintro e w4 ⟨rfl, rfl⟩
        have H4 := Lib.hid (HD.out.mono (Nat.le_succ _))
        go_wp2_with fail
        go_roundw
        case rel => exact ⟨k + 1, F, M, A, by go_num, by omega, by omega, HNA, H4⟩
        case measure => simp [intOf]; omega
    · rw [decide_eq_false hgo]
      have HD1 : Hid (Rc 65537 w wo F r d M A) := HD.out.mono (by omega)
      clear hgo HR HD hk hk5
      go_wp2_with fail
      refine (pairs_any wo _ F r d M A HD1.out.rf).mono ?_
      rintro e w5 ⟨v5, al, rfl, q1, q2, q3, q4⟩
      have HD5 := Lib.hid (HD1.out.quiet q4)
      have hll2 := q1.length_eq
      rw [← hll2] at q3
      obtain ⟨va, vc, rfl⟩ := ow_sliceN q3
      have Q3 := Lib.hid q3
      have HSUB : Hid (∀ x ∈ al.map (·.1), x ∈ A.map (·.1)) := fun x hx => (q1.map (·.1)).mem_iff.1 hx
      have HND : Hid ((al.map (·.1)).Nodup) := (q1.map (fun x : Pr => x.1)).nodup_iff.2 HD1.out.rf.like.nodup
      have HAW : Hid (Aw F (.slice va al.length vc)) := HD1.out.away q3
      have hal : al.length ≤ 65537 := by rw [hll2]; exact HD1.out.few
      obtain ⟨n1, n2, n3⟩ := scan_small HD5.out (by decide)
      have hne : entries M ≠ [] := by
        intro e
        have h1 := HD5.out.rf.like.inv.count
        rw [e, HD5.out.count] at h1
        exact HNA.out (List.length_eq_zero_iff.1 h1)
      have hnx := recScan_any w5 _ F r d M A 0 1 HD5.out.rf (by unfold InI; decide)
      have htl := Tld.first HD5.out.rf.like (by omega) (by omega) HSUB.out 1
      have hkl := scanK_len HD5.out.rf.like.inv (by omega) (by omega) 0 1
      have hcu := scan_cur HD5.out.rf.like.inv (by omega) (by omega) 0 1
      have hfs := scan_first HD5.out.rf.like.inv hne
      rw [show (0 : UInt64).toNat = 0 from rfl] at hnx
      obtain ⟨R, hR⟩ : ∃ R, scanK M 0 1 = R := ⟨_, rfl⟩
      rw [hR] at hnx htl hkl hcu hfs
      obtain ⟨R1, R2⟩ := R
      dsimp only at hkl hcu htl hfs
      have HNX := Lib.hid hnx
      have HTL := Lib.hid htl
      have HFS := Lib.hid hfs
      clear hnx htl hR q1 q2 q3 q4 hll2 hne HNA hfs
      go_wp2_with fail
      refine HNX.out.mono ?_
      rintro e w6 ⟨v6, rfl, hr6, hb6⟩
      dsimp only at hr6 ⊢
      have HM6 : Hid (Ss 65537 w w6 r d F M A (.slice va al.length vc) al v6 R2 (UInt64.ofNat R1).toNat) := by
        refine ⟨HD5.out.quiet (fr_bel hb6), ow_fr (ow_base Q3.out HD1.out.bel.size) (fr_bel hb6) (fun _ _ h => h), ow_base hr6 HD5.out.bel.size, HAW.out, HD5.out.away hr6, HND.out, HSUB.out, ?_⟩
        rw [u64_nat _ hcu]; exact HTL.out
      have HW1 := Lib.hid (wd_nat R1 hcu)
      have hR2 : R2.length ≤ 393222 := by omega
      clear hr6 hb6 HD5 HSUB HND HAW Q3 HD1 HNX HTL hcu hkl
      go_wp2_with fail
      go_loopw [9, 10, 11, 12] (fun va cv vt i wr => ∃ (k : Nat) (F : Nat → Prop) (M : DM) (A : List Pr) (c : UInt64) (al : List Pr) (told : List ByteArray), i = .int .i64 k ∧ cv = .int .u64 (wd c) ∧ k ≤ l3.length ∧ k ≤ 65536 ∧ al.length ≤ 65537 ∧ told.length ≤ (k + 1) * 393222 ∧ Hid (told ≠ []) ∧ Hid (Ss (65537 + k) w wr r d F M A va al vt told c.toNat)) (fun _ _ _ i _ => l3.length - (intOf i).toNat)
      case atStart => exact ⟨0, F, M, A, _, al, R2, rfl, by rw [HW1.out], by omega, by omega, by omega, by omega, HFS, HM6⟩
      case round =>
        obtain ⟨k, F, M, A, c, al, told, rfl, rfl, hk, hk2, hal2, htd, HTN, HM⟩ := hrel
        obtain ⟨wo, rfl⟩ : ∃ wo, wo = wr := ⟨_, rfl⟩
        clear HM6 HFS
        obtain ⟨va, rfl⟩ : ∃ v, v = u9 := ⟨_, rfl⟩
        obtain ⟨vt, rfl⟩ : ∃ v, v = u11 := ⟨_, rfl⟩
        obtain ⟨cn, hcn⟩ : ∃ n, c.toNat = n := ⟨_, rfl⟩
        have hwc : wd c = (cn : Int) := congrArg Nat.cast hcn
        rw [hcn] at HM
        rw [hwc]
        have HCN := Lib.hid hcn
        have HWC := Lib.hid hwc
        clear hcn hwc
        go_upto_region 12 with (fail)
        go_cut [63] from 52 to 63 (fun t wc => wc = wo ∧ t = .bool (decide (k < l3.length ∧ k < 65536 ∧ cn ≠ 0)))
        case first =>
          by_cases h1 : k < l3.length
          · by_cases h2 : k < 65536
            · have q2 : (k : Int) < 65536 := by omega
              by_cases h3 : cn = 0
              · have hd : decide (k < l3.length ∧ k < 65536 ∧ cn ≠ 0) = false := decide_eq_false (fun h => h.2.2 h3)
                have HD := Lib.hid hd
                subst h3
                clear hd
                go_wp2
                go_meet
                case rel => exact ⟨rfl, by rw [HD.out]⟩
              · have hd : decide (k < l3.length ∧ k < 65536 ∧ cn ≠ 0) = true := decide_eq_true ⟨h1, h2, h3⟩
                have HD := Lib.hid hd
                have q3 : ((cn : Int) != 0) = true := by rw [bne_iff_ne]; omega
                clear hd
                go_wp2
                go_meet
                case rel => exact ⟨rfl, by rw [HD.out]⟩
            · have hd : decide (k < l3.length ∧ k < 65536 ∧ cn ≠ 0) = false := decide_eq_false (fun h => h2 h.2.1)
              have HD := Lib.hid hd
              have q2 : ¬ (k : Int) < 65536 := by omega
              clear hd
              go_wp2
              go_meet
              case rel => exact ⟨rfl, by rw [HD.out]⟩
          · have hd : decide (k < l3.length ∧ k < 65536 ∧ cn ≠ 0) = false := decide_eq_false (fun h => h1 h.1)
            have HD := Lib.hid hd
            clear hd
            go_wp2
            go_meet
            case rel => exact ⟨rfl, by rw [HD.out]⟩
        case rest =>
        obtain ⟨rfl, rfl⟩ := hcut
        obtain ⟨wo, rfl⟩ : ∃ x, x = wc := ⟨_, rfl⟩
        by_cases hgo : k < l3.length ∧ k < 65536 ∧ cn ≠ 0
        · rw [decide_eq_true hgo]
          obtain ⟨h1, h2, h3⟩ := hgo
          obtain ⟨g, off, rfl, e0, e1, e2, e3, e4, e5⟩ := st9_at (HR3.out.below HM.out.rc.bel) k h1
          obtain ⟨kd, hkd⟩ : ∃ x, l3[k].1.do_ = x := ⟨_, rfl⟩
          obtain ⟨who, hwho⟩ : ∃ x, l3[k].1.who = x := ⟨_, rfl⟩
          obtain ⟨f, hff⟩ : ∃ x, l3[k].1.field = x := ⟨_, rfl⟩
          obtain ⟨s, hss⟩ : ∃ x, l3[k].1.s = x := ⟨_, rfl⟩
          obtain ⟨nn, hnn⟩ : ∃ x, wd l3[k].1.n = x := ⟨_, rfl⟩
          obtain ⟨ct, hct⟩ : ∃ x, l3[k].1.count = x := ⟨_, rfl⟩
          have hfz : f.size ≤ maxLen := hff ▸ l3[k].2.1
          have hsz : s.size ≤ maxLen := hss ▸ l3[k].2.2.1
          have hcI : InI ct := hct ▸ l3[k].2.2.2
          rw [hkd] at e0
          rw [hwho] at e1
          rw [hff] at e2
          rw [hss] at e3
          rw [hnn] at e4
          rw [hct] at e5
          obtain ⟨W, hW⟩ : ∃ W, wo.alloc (.cells #[.int .i64 kd, .int .i64 who, .string f, .string s, .int .u64 nn, .int .i64 ct] 55) = W := ⟨_, rfl⟩
          have hblk : W.heap[wo.heap.size]? = some (uBlk kd who f s nn ct) := by rw [← hW]; exact alloc_new wo _
          have HMW : Hid (Ss (65537 + k) w W r d F M A va al vt told cn) := by rw [← hW]; exact HM.out.quiet (Fr.alloc _ _ _)
          have HBLK := Lib.hid hblk
          obtain ⟨d0, d2, d3, d5⟩ := uBlk_cells hblk
          have HFZ := Lib.hid hfz
          have HSZ := Lib.hid hsz
          have HCI := Lib.hid hcI
          have HOUT : Hid (∀ i, F i → i < wo.heap.size) := fun i hi => (HM.out.rc.rf.lt i hi).2
          have HK1 : Hid (k + 1 ≤ l3.length ∧ k + 1 ≤ 65536) := ⟨h1, h2⟩
          clear hkd hwho hff hss hnn hct hblk hfz hsz hcI HM
          go_upto_if 72 with (fail)
          try rw [hW]
          clear hW e0 e1 e2 e3 e4 e5
          go_cut [9] from 70 to 88 (fun va wc => ∃ (F : Nat → Prop) (M : DM) (A al : List Pr), al.length ≤ 65537 ∧ Hid (Ss (65537 + (k + 1)) w wc r d F M A va al vt told cn) ∧ Hid (wc.heap[wo.heap.size]? = some (uBlk kd who f s nn ct)))
          case first =>
            have hra0 := HMW.out.ra
            obtain ⟨vA, vC, rfl⟩ := ow_sliceN hra0
            clear hra0
            by_cases h2' : kd = 2
            · subst h2'
              clear d3 d5
              go_wp2_with fail
              refine (rc_del w W (65537 + k) F r d M A f HMW.out.rc HFZ.out).mono ?_
              rintro e w4 ⟨rfl, M', hrc, hsd, hfr⟩
              have hb4 := (hfr.block _ (Array.getElem?_eq_some_iff.1 HBLK.out).1 (fun hF => absurd (HOUT.out _ hF) (Nat.lt_irrefl _))).trans HBLK.out
              clear d0 d2
              obtain ⟨-, d2, -, -⟩ := uBlk_cells hb4
              have hra := ow_fr HMW.out.ra hfr HMW.out.aa
              have hrt := ow_fr HMW.out.rt hfr HMW.out.at_
              have hfin := find_any w4 (.slice vA al.length vC) al f (RdC.of_owns hra)
              have hwo := without_any w4 (.slice vA al.length vC) al (fdI al f) (RdC.of_owns hra) (by omega)
              rw [dropI_fd] at hwo
              obtain ⟨at_, hat⟩ : ∃ a, fdI al f = a := ⟨_, rfl⟩
              rw [hat] at hfin hwo
              have HFIN := Lib.hid hfin
              have HWO := Lib.hid hwo
              have HRC := Lib.hid hrc
              have HSD := Lib.hid hsd
              have HRT := Lib.hid hrt
              have HB4 := Lib.hid hb4
              have hlen := len_del (A := al) (key := f)
              clear hrc hsd hfr hb4 hra hrt hfin hwo hat
              go_wp2_with fail
              refine HFIN.out.mono ?_
              rintro e w' ⟨rfl, rfl⟩
              go_wp2_with fail
              refine HWO.out.mono ?_
              rintro e w5 ⟨v5, rfl, hr5, hb5⟩
              have HS5 : Hid (Ss (65537 + (k + 1)) w w5 r d (Grew F W w4) M' (delG A f) v5 (delG al f) vt told cn) :=
                ⟨(HRC.out.mono (by omega)).quiet (fr_bel hb5), ow_base hr5 HRC.out.bel.size, ow_fr HRT.out (fr_bel hb5) (fun _ _ h => h), HRC.out.away hr5, HMW.out.at_.own HMW.out.rt, delG_nodup HMW.out.nd,
                  fun x hx => delG_keys (delG_not HMW.out.nd hx).2 (HMW.out.sub x (delG_not HMW.out.nd hx).1), by rw [HSD.out]; exact HMW.out.tld.stay (fun x hx => (delG_not HMW.out.nd hx).1)⟩
              have HB5 : Hid (w5.heap[wo.heap.size]? = some (uBlk 2 who f s nn ct)) := (hb5.block _ (Array.getElem?_eq_some_iff.1 HB4.out).1).trans HB4.out
              clear hr5 hb5
              go_wp2_with fail
              go_meet
              case rel => exact ⟨_, M', _, delG al f, by omega, HS5, HB5⟩
            · have g2 : (kd == 2) = false := beq_eq_false_iff_ne.2 h2'
              clear d5
              by_cases hfit : Fits (f, s)
              · have HFI := Lib.hid hfit
                clear hfit
                go_wp2_with fail
                refine (rc_set w W (65537 + k) F r d M A f s HMW.out.rc HFI.out (by omega)).mono ?_
                rintro e w4 ⟨rfl, M', hrc, hsd, hfr⟩
                have HS5 : Hid (Ss (65537 + (k + 1)) w w4 r d (Grew F W w4) M' (setG A f s) (.slice vA al.length vC) al vt told cn) := HMW.out.turn hrc hsd hfr (fun x hx => setG_keys s (HMW.out.sub x hx))
                have HB5 : Hid (w4.heap[wo.heap.size]? = some (uBlk kd who f s nn ct)) := (hfr.block _ (Array.getElem?_eq_some_iff.1 HBLK.out).1 (fun hF => absurd (HOUT.out _ hF) (Nat.lt_irrefl _))).trans HBLK.out
                clear hrc hsd hfr
                go_wp2_with fail
                go_meet
                case rel => exact ⟨_, M', _, al, hal2, HS5, HB5⟩
              · go_wp2_with fail
                refine (recSet_long W r f s HFZ.out HSZ.out hfit).mono ?_
                rintro e w' ⟨rfl, rfl⟩
                have HS5 := Lib.hid (HMW.out.mono (K' := 65537 + (k + 1)) (by omega))
                go_wp2_with fail
                go_meet
                case rel => exact ⟨_, M, _, al, hal2, HS5, HBLK⟩
          case rest =>
          obtain ⟨F, M, A, al, hal2, HM, HBLK⟩ := hcut
          obtain ⟨va, rfl⟩ : ∃ v, v = u9 := ⟨_, rfl⟩
          obtain ⟨w5, rfl⟩ : ∃ x, x = wc := ⟨_, rfl⟩
          clear d0 d2 d3 d5 HMW HOUT
          obtain ⟨-, -, -, d5⟩ := uBlk_cells HBLK.out
          by_cases hc0 : (0 : Int) ≤ ct
          · obtain ⟨n1, n2, n3⟩ := scan_small HM.out.rc (by have := HK1.out.2; omega)
            have hnx := recScan_any w5 _ F r d M A c ct HM.out.rc.rf HCI.out
            have htl := Tld.next HM.out.rc.rf.like (by omega) (by omega) h3 HM.out.tld HM.out.sub ct
            have hkl := scanK_len HM.out.rc.rf.like.inv (by omega) (by omega) cn ct
            have hcu := scan_cur HM.out.rc.rf.like.inv (by omega) (by omega) cn ct
            rw [HWC.out, HCN.out] at hnx
            obtain ⟨R, hR⟩ : ∃ R, scanK M cn ct = R := ⟨_, rfl⟩
            rw [hR] at hnx htl hkl hcu
            obtain ⟨R1, R2⟩ := R
            dsimp only at hkl hcu htl
            have HNX := Lib.hid hnx
            have HTL := Lib.hid htl
            clear hnx htl hR
            go_wp2_with fail
            refine HNX.out.mono ?_
            rintro e w6 ⟨v6, rfl, hr6, hb6⟩
            dsimp only at hr6 ⊢
            have HM6 := Lib.hid (HM.out.quiet (fr_bel hb6))
            have HRD := Lib.hid (RdC.of_owns hr6)
            have hrt := HM6.out.rt
            obtain ⟨vta, vtc, rfl⟩ := owns_slice hrt
            have HRT := Lib.hid hrt
            have HSZ6 := Lib.hid HM6.out.rc.bel.size
            obtain ⟨v6a, v6c, rfl⟩ := owns_slice hr6
            have HW1 := Lib.hid (wd_nat R1 hcu)
            have HU1 := Lib.hid (u64_nat R1 hcu)
            have hb2 : told.length + R2.length ≤ 6597083209500 := by omega
            have hf5 : (told ++ R2).length ≤ (k + 1 + 1) * 393222 := by rw [List.length_append]; omega
            have F5 := Lib.hid hf5
            clear hr6 hb6 hrt HNX HM hcu hf5 hkl
            go_wp2_with (at_builtin; refine wpl_append2 rfl (.tmp 101) (.tmp 102) 39 rfl w.heap.size 9 i0 (.string ⟨#[]⟩) 1 16 Try.underlying39 HI.out HZ0.out HZ1.out HZ2.out rfl (by decide) _ told.length _ rfl HRT.out _ R2.length _ rfl HRD.out (one_strs _) (by unfold maxLen; omega) (by omega) HSZ6.out ?_; intro v' w8 hown hgrow hap; have HO8 := Lib.hid hown; have HG8 := Lib.hid hgrow; have HA8 := Lib.hid hap; clear hown hgrow hap)
            have HM8 : Hid (Ss (65537 + (k + 1)) w w8 r d F M A va al v' (told ++ R2) (UInt64.ofNat R1).toNat) := by
              refine HM6.out.app (rowS_app HO8.out) HG8.out HA8.out ?_
              rw [HU1.out]; exact HTL.out
            have HTN2 : Hid (told ++ R2 ≠ []) := fun e => HTN.out (List.append_eq_nil_iff.1 e).1
            go_roundw
            case rel => exact ⟨k + 1, F, M, A, UInt64.ofNat R1, al, told ++ R2, by go_num, by rw [HW1.out], HK1.out.1, HK1.out.2, hal2, F5.out, HTN2, HM8⟩
            case measure => simp [intOf]; omega
          · have F5 : Hid (told.length ≤ (k + 1 + 1) * 393222) := Nat.le_trans htd (Nat.mul_le_mul_right _ (Nat.le_succ _))
            go_wp2_with fail
            go_roundw
            case rel => exact ⟨k + 1, F, M, A, c, al, told, by go_num, by rw [HWC.out], HK1.out.1, HK1.out.2, hal2, F5.out, HTN, by rw [HCN.out]; exact HM⟩
            case measure => simp [intOf]; omega
        · rw [decide_eq_false hgo]
          have htd2 : told.length ≤ 25770600000 := by omega
          have HM0 : Hid (Ss 131073 w wo r d F M A va al vt told cn) := HM.out.mono (by omega)
          have hra0 := HM0.out.ra
          obtain ⟨vA, vC, rfl⟩ := ow_sliceN hra0
          obtain ⟨n1, n2, n3⟩ := scan_small HM0.out.rc (by decide)
          have HTLD := Lib.hid HM0.out.tld
          have HTW0 : Hid (Toward M 50 cn 0 cn [] (al.map (·.1)) told) := Toward.start M 50 HM0.out.tld
          clear hgo htd hk hk2 HR3 HM hra0
          go_wp2_with fail
          go_loopw [10, 11, 16] (fun cv vt n wr => ∃ (j : Nat) (c : UInt64) (L : List ByteArray), n = .int .i64 j ∧ cv = .int .u64 (wd c) ∧ j ≤ 524297 ∧ L.length ≤ 393222 ∧ Hid (Toward M 50 cn j c.toNat L (al.map (·.1)) told) ∧ Hid (Ss 131073 w wr r d F M A (.slice vA al.length vC) al vt (told ++ L) cn)) (fun _ _ n _ => 524297 - (intOf n).toNat)
          case atStart => exact ⟨0, c, [], rfl, by rw [HWC.out], by omega, by simp, by rw [HCN.out]; exact HTW0, by rw [List.append_nil]; exact HM0⟩
          case round =>
            obtain ⟨j, c, L, rfl, rfl, hj, hL, HTW, HM⟩ := hrel
            obtain ⟨wo, rfl⟩ : ∃ wo, wo = wr := ⟨_, rfl⟩
            clear HM0 HTW0
            obtain ⟨vt, rfl⟩ : ∃ v, v = u11 := ⟨_, rfl⟩
            obtain ⟨cm, hcm⟩ : ∃ n, c.toNat = n := ⟨_, rfl⟩
            have hwc : wd c = (cm : Int) := congrArg Nat.cast hcm
            rw [hcm] at HTW
            rw [hwc]
            have HCM := Lib.hid hcm
            have HWM := Lib.hid hwc
            clear hcm hwc
            have q9 : (j : Int) < 4194304 := by omega
            go_upto_region 24 with (fail)
            go_cut [109] from 104 to 109 (fun t wc => wc = wo ∧ t = .bool (decide (cm ≠ 0)))
            case first =>
              by_cases h3 : cm = 0
              · have hd : decide (cm ≠ 0) = false := decide_eq_false (fun h => h h3)
                have HD := Lib.hid hd
                subst h3
                clear hd
                go_wp2
                go_meet
                case rel => exact ⟨rfl, by rw [HD.out]⟩
              · have hd : decide (cm ≠ 0) = true := decide_eq_true h3
                have HD := Lib.hid hd
                have q3 : ((cm : Int) != 0) = true := by rw [bne_iff_ne]; omega
                clear hd
                go_wp2
                go_meet
                case rel => exact ⟨rfl, by rw [HD.out]⟩
            case rest =>
            obtain ⟨rfl, rfl⟩ := hcut
            obtain ⟨wo, rfl⟩ : ∃ x, x = wc := ⟨_, rfl⟩
            by_cases hz : cm = 0
            · rw [decide_eq_false (fun h => h hz)]
              subst hz
              have HALL : Hid (∀ x ∈ al.map (·.1), x ∈ told ++ L) := by
                rcases HTW.out with ⟨h, _⟩ | ⟨_, h⟩
                · exact absurd rfl h
                · exact h
              obtain ⟨T, hT⟩ : ∃ T, told ++ L = T := ⟨_, rfl⟩
              rw [hT] at HALL HM
              have hTl : T.length ≤ 25771000000 := by rw [← hT, List.length_append]; omega
              have hTp : 0 < T.length := by rw [← hT, List.length_append]; have := List.length_pos_iff.2 HTN.out; omega
              have hrt := HM.out.rt
              obtain ⟨ta, tc, rfl⟩ := owns_slice hrt
              clear hT HTW HTN q9 hj hL htd2 hrt
              go_wp2_with fail
              go_loopw [19] (fun i wr => ∃ (j : Nat), i = .int .i64 j ∧ j ≤ al.length ∧ Hid (Fr (fun _ => False) wo wr)) (fun i _ => al.length - (intOf i).toNat)
              case atStart => exact ⟨0, rfl, by omega, Fr.refl _ _⟩
              case round =>
                obtain ⟨j, rfl, hj, HF⟩ := hrel
                by_cases hlt : j < al.length
                · obtain ⟨x, hx⟩ : ∃ x, (al[j]).1 = x := ⟨_, rfl⟩
                  have HX := Lib.hid hx
                  have HIN : Hid (x ∈ T) := HALL.out x (by rw [← hx]; exact List.mem_map_of_mem (List.getElem_mem hlt))
                  clear hx
                  go_wp2_with fail
                  go_loopw [20, 21] (fun s i wr => ∃ (m : Nat), i = .int .i64 m ∧ m ≤ T.length ∧ s = .bool (inT (T.take m) x) ∧ Hid (Fr (fun _ => False) wo wr)) (fun _ i _ => T.length - (intOf i).toNat)
                  case atStart => exact ⟨0, rfl, by omega, rfl, HF⟩
                  case round =>
                    obtain ⟨m, rfl, hm, rfl, HF2⟩ := hrel
                    obtain ⟨wz, rfl⟩ : ∃ wz, wz = wr := ⟨_, rfl⟩
                    clear HF
                    by_cases hlm : m < T.length
                    · have HMz := Lib.hid (HM.out.quiet HF2.out)
                      obtain ⟨ga, hga, p1, -, -, -⟩ := rowP_at HMz.out.ra rfl j hlt
                      rw [HX.out] at p1
                      subst hga
                      obtain ⟨gt, ot, rfl, hcell⟩ := (RdC.of_owns HMz.out.rt).at (by rw [List.length_map]; omega)
                      have p2 := hcell m (.string T[m]) (by rw [List.getElem?_map, List.getElem?_eq_getElem hlm]; rfl)
                      obtain ⟨y, hy⟩ : ∃ y, T[m] = y := ⟨_, rfl⟩
                      rw [hy] at p2
                      have htk : inT (T.take (m + 1)) x = (inT (T.take m) x || decide (y = x)) := by
                        unfold inT
                        rw [any_snoc _ T m hlm, hy]
                      have HTK := Lib.hid htk
                      have b0 : (0 : Int) ≤ (m : Int) := by omega
                      have b1 : (m : Int) < (T.length : Int) := by omega
                      have b2 : (0 : Int) ≤ (j : Int) := by omega
                      have b3 : (j : Int) < (al.length : Int) := by omega
                      obtain ⟨b, hb⟩ : ∃ b, inT (T.take m) x = b := ⟨_, rfl⟩
                      rw [hb] at HTK ⊢
                      have hq : (y.toList == x.toList) = decide (y = x) := str_beq y x
                      obtain ⟨b', hb'⟩ : ∃ b', decide (y = x) = b' := ⟨_, rfl⟩
                      rw [hb'] at HTK hq
                      clear hcell hy htk hb hb'
                      cases b with
                      | true =>
                        go_upto_region 36 with (fail)
                        go_quiet (fail)
                        go_wp2_with fail
                        go_roundw
                        case rel => exact ⟨m + 1, by go_num, by omega, by rw [HTK.out]; rfl, HF2.out.thenDrewN _⟩
                        case measure => simp [intOf]; omega
                      | false =>
                        go_upto_region 36 with (fail)
                        go_quiet (fail)
                        go_wp2_with fail
                        go_roundw
                        case rel => exact ⟨m + 1, by go_num, by omega, by rw [HTK.out]; rfl, HF2.out.thenDrewN _⟩
                        case measure => simp [intOf]; omega
                    · obtain rfl : m = T.length := by omega
                      rw [List.take_length, inT_iff.2 HIN.out]
                      go_wp2_with fail
                      go_roundw
                      case rel => exact ⟨j + 1, by go_num, by omega, HF2⟩
                      case measure => simp [intOf]; omega
                · obtain rfl : j = al.length := by omega
                  have HBL := Lib.hid (HM.out.quiet HF.out).rc.bel
                  have g9 : (0 : Int) < (T.length : Int) := by omega
                  go_wp2_with fail
                  go_ret
                  exact ⟨rfl, HBL.out⟩
            · rw [decide_eq_true hz]
              have hfew := HTW.out.few HM.out.rc.rf.like.inv hz
              have hnx := recScan_any wo _ F r d M A c 50 HM.out.rc.rf (by unfold InI; decide)
              obtain ⟨htw, hlen⟩ := HTW.out.next (count := 50) HM.out.rc.rf.like (by omega) (by omega) hz HTLD.out HM.out.sub
              have hkl := scanK_len HM.out.rc.rf.like.inv (by omega) (by omega) cm 50
              have hcu := scan_cur HM.out.rc.rf.like.inv (by omega) (by omega) cm 50
              rw [HWM.out, HCM.out] at hnx
              obtain ⟨R, hR⟩ : ∃ R, scanK M cm 50 = R := ⟨_, rfl⟩
              rw [hR] at hnx htw hkl hcu hlen
              obtain ⟨R1, R2⟩ := R
              dsimp only at hkl hcu htw hlen
              have HNX := Lib.hid hnx
              have HTW2 := Lib.hid htw
              clear hnx htw hR HTW
              go_wp2_with fail
              refine HNX.out.mono ?_
              rintro e w6 ⟨v6, rfl, hr6, hb6⟩
              dsimp only at hr6 ⊢
              have HM6 := Lib.hid (HM.out.quiet (fr_bel hb6))
              have HRD := Lib.hid (RdC.of_owns hr6)
              have hrt := HM6.out.rt
              obtain ⟨vta, vtc, rfl⟩ := owns_slice hrt
              have HRT := Lib.hid hrt
              have HSZ6 := Lib.hid HM6.out.rc.bel.size
              obtain ⟨v6a, v6c, rfl⟩ := owns_slice hr6
              have HW1 := Lib.hid (wd_nat R1 hcu)
              have HU1 := Lib.hid (u64_nat R1 hcu)
              have hl5 : (told ++ L).length ≤ 25771000000 := by rw [List.length_append]; omega
              have hr2 : R2.length ≤ 393222 := by omega
              have F5 : Hid ((L ++ R2).length ≤ 393222) := Nat.le_trans hlen (by omega)
              have J5 : Hid (j + 1 ≤ 524297) := (by show _ ≤ _; omega)
              obtain ⟨T, hT⟩ : ∃ T, told ++ L = T := ⟨_, rfl⟩
              rw [hT] at HRT hl5 HM6 ⊢
              have HT := Lib.hid hT
              clear hr6 hb6 hrt HNX HM hcu hkl hlen hfew hT
              go_wp2_with (at_builtin; refine wpl_append2 rfl (.tmp 119) (.tmp 120) 39 rfl w.heap.size 9 i0 (.string ⟨#[]⟩) 1 16 Try.underlying39 HI.out HZ0.out HZ1.out HZ2.out rfl (by decide) _ T.length _ rfl HRT.out _ R2.length _ rfl HRD.out (one_strs _) (by unfold maxLen; omega) (by omega) HSZ6.out ?_; intro v' w8 hown hgrow hap; have HO8 := Lib.hid hown; have HG8 := Lib.hid hgrow; have HA8 := Lib.hid hap; clear hown hgrow hap)
              have HM8 : Hid (Ss 131073 w w8 r d F M A (.slice vA al.length vC) al v' (told ++ (L ++ R2)) cn) := by
                have h1 := HM6.out.app (c' := cn) (rowS_app HO8.out) HG8.out HA8.out (fun x hx hp => by rw [← HT.out]; exact List.mem_append_left _ (List.mem_append_left _ (HTLD.out x hx hp)))
                rw [← HT.out, List.append_assoc] at h1
                exact h1
              go_roundw
              case rel => exact ⟨j + 1, UInt64.ofNat R1, L ++ R2, by go_num, by rw [HW1.out], J5.out, F5.out, by rw [HU1.out]; exact HTW2, HM8⟩
              case measure => have := J5.out; simp [intOf]; omega
end Go.Proofs.Ytgomilodeaafdaa

/- The walk of RecordTable. No condition. -/
import Derived.Test.YtgomilodeaafdaaBn
import Derived.Test.YtgomilodeaafdaaBa
namespace Go.Proofs.Ytgomilodeaafdaa
open Go.ChangeShapes Go.WideShapes Go.ChangeAt Go.RowKit Ds
open Go.ChangeMaps (open_string shut_string)
/-- a record, and its pairs in a row beside it -/
structure Rt (K : Nat) (w0 w : World) (r d : Nat) (F : Nat → Prop) (M : DM) (A : List Pr) (v : Value) : Prop where
  rc : Rc K w0 w F r d M A
  row : RowP w0.heap.size w v A
  aw : Aw F v
theorem Rt.quiet {K : Nat} {w0 w w' : World} {r d : Nat} {F : Nat → Prop} {M : DM} {A : List Pr} {v : Value} (h : Rt K w0 w r d F M A v) (hf : Fr (fun _ => False) w w') : Rt K w0 w' r d F M A v :=
  ⟨h.rc.quiet hf, ow_fr h.row hf (fun _ _ h => h), h.aw⟩
theorem Rt.mono {K K' : Nat} {w0 w : World} {r d : Nat} {F : Nat → Prop} {M : DM} {A : List Pr} {v : Value} (h : Rt K w0 w r d F M A v) (hk : K ≤ K') : Rt K' w0 w r d F M A v := ⟨h.rc.mono hk, h.row, h.aw⟩
/-- the record turned; the row as it was -/
structure Rm (K : Nat) (w0 w : World) (r d : Nat) (F : Nat → Prop) (M : DM) (A' A : List Pr) (v : Value) : Prop where
  rc : Rc K w0 w F r d M A'
  row : RowP w0.heap.size w v A
  aw : Aw F v
theorem Rt.to {K K' : Nat} {w0 w w' : World} {r d : Nat} {F : Nat → Prop} {M : DM} {A A' : List Pr} {v : Value} (h : Rt K w0 w r d F M A v) (g : RcTo w0 w F r d M A' K' w') : ∃ M', Rm K' w0 w' r d (Grew F w w') M' A' A v := by
  obtain ⟨M', h1, -, h3⟩ := g
  exact ⟨M', h1, ow_fr h.row h3 h.aw, h.aw.own h.row⟩
theorem Rm.done {K : Nat} {w0 w : World} {r d : Nat} {F : Nat → Prop} {M : DM} {A : List Pr} {v : Value} (h : Rm K w0 w r d F M A A v) : Rt K w0 w r d F M A v := ⟨h.rc, h.row, h.aw⟩
theorem Rm.put {K : Nat} {w0 w : World} {r d : Nat} {F : Nat → Prop} {M : DM} {A' A : List Pr} {g n cap : Nat} (h : Rm K w0 w r d F M A' A (.slice (some ⟨g, 0, none⟩) n cap)) (hn : n = A.length) (k : Nat) (hk : k < A.length) (y : ByteArray) (hA : A' = A.set k ((A[k]).1, y)) :
    Rt K w0 (w.setCell ⟨g, k * 2 + 1, none⟩ (.string y)) r d F M A' (.slice (some ⟨g, 0, none⟩) n cap) := by
  subst hn
  have hg : ¬ F g := h.aw g rfl
  have hB : w0.heap.size ≤ g := (own_blk h.row rfl).1
  have hf := Fr.setCell w ⟨g, k * 2 + 1, none⟩ (.string y)
  refine ⟨h.rc.other hf (fun i hi e => hg (by rw [← show i = g from e]; exact hi)) (fun i e => by rw [show i = g from e]; exact hB), ?_, h.aw⟩
  have := rowP_put2 h.row k hk y
  rw [← hA] at this
  show World.ownsRow _ _ _ _ _ _ _
  rw [show A'.length = A.length by rw [hA, List.length_set]]
  exact this
theorem Rm.app {K : Nat} {w0 w w1 w' : World} {r d : Nat} {F : Nat → Prop} {M : DM} {A' A : List Pr} {v v' : Value} {x : Pr} (h : Rm K w0 w r d F M A' A v) (hf : Fr (fun _ => False) w w1)
    (hr : w'.ownsRow w0.heap.size 51 2 v' (A.length + 1) (A.flatMap encP ++ encP x)) (hg : w1.grownBy w' v.ownBlock) (ha : ∀ g, v'.ownBlock = some g → v.ownBlock = some g ∨ w1.heap.size ≤ g) (hA : A' = A ++ [x]) :
    Rt K w0 w' r d F M A' v' := by
  have h1 := h.rc.quiet hf
  refine ⟨h1.other (Fr.of_grownBy hg) (fun i hi e => h.aw i e hi) (fun i e => (own_blk h.row e).1), ?_, fun g hgv hF => ?_⟩
  · rw [hA]
    show World.ownsRow _ _ _ _ _ _ _
    rw [List.length_append, List.flatMap_append, List.flatMap_singleton]
    exact hr
  · rcases ha g hgv with h2 | h2
    · exact h.aw g h2 hF
    · have := (h1.rf.lt g hF).2
      omega
/-- the block of a step -/
def sBlk (kd who : Int) (f s : ByteArray) (n ct : Int) : Obj := .cells #[.int .i64 kd, .int .i64 who, .string f, .string s, .int .u64 n, .int .i64 ct] 55 (0, 0)
theorem sBlk_cells {w : World} {b : Nat} {kd who n ct : Int} {f s : ByteArray} (h : w.heap[b]? = some (sBlk kd who f s n ct)) : w.cell? ⟨b, 0, none⟩ = some (.int .i64 kd) ∧ w.cell? ⟨b, 2, none⟩ = some (.string f) ∧ w.cell? ⟨b, 3, none⟩ = some (.string s) ∧ w.cell? ⟨b, 5, none⟩ = some (.int .i64 ct) :=
  ⟨cell_of_blk h 0, cell_of_blk h 2, cell_of_blk h 3, cell_of_blk h 5⟩
theorem fits_dec (f s : ByteArray) : Fits (f, s) ↔ (f.size ≤ 1048576 ∧ s.size ≤ 1048576) := Iff.rfl
set_option maxRecDepth 100000 in
set_option maxHeartbeats 8000000 in
theorem recordTable_walk (w : World) (x0 : UInt64) (v1 : Value) (l : List St9B) (hr : RdC w 6 v1 l.length (l.flatMap st9)) (_hby : l.length ≤ 1048576) :
    Calls Try.prog 5 #[.int .u64 (wd x0), v1] w fun e w' => e = .returned (.bool true) ∧ Below w.heap.size w w' := by
  have hll : l.length ≤ 9223372036854775807 := by have := hr.len; unfold maxLen at this; exact this
  have HR := Lib.hid hr
  obtain ⟨-, a1, c1, rfl, -⟩ := hr
  obtain ⟨i0, hi, hz0, hz1, hz2⟩ := info_parts infoPr
  have HI := Lib.hid hi
  have HZ0 := Lib.hid hz0
  have HZ1 := Lib.hid hz1
  have HZ2 := Lib.hid hz2
  clear hi hz0 hz1 hz2
  go_enter Try.func5, Try.ntmps5
  go_wp2_with fail
  refine (rc_new w w x0 (Below.refl _ _)).mono ?_
  rintro e w1 ⟨r, d, M0, F0, rfl, h0, -, -, -⟩
  have H0 : Hid (Rt 0 w w1 r d F0 M0 [] (.slice none 0 0)) := ⟨h0, World.ownsRow_nil _ _ _ _, fun g hg => by cases hg⟩
  clear h0
  go_wp2_with fail
  go_loopw [6, 7] (fun v i wr => ∃ (k : Nat) (F : Nat → Prop) (M : DM) (A : List Pr), i = .int .i64 k ∧ k ≤ l.length ∧ k ≤ 3000 ∧ Hid (Rt k w wr r d F M A v)) (fun _ i _ => l.length - (intOf i).toNat)
  case atStart => exact ⟨0, F0, M0, [], rfl, by omega, by omega, H0⟩
  case round =>
    obtain ⟨k, F, M, A, rfl, hk, hk5, HT⟩ := hrel
    obtain ⟨v, rfl⟩ : ∃ v, v = u6 := ⟨_, rfl⟩
    obtain ⟨wo, rfl⟩ : ∃ wo, wo = wr := ⟨_, rfl⟩
    clear H0
    go_upto_region 6 with (fail)
    go_cut [31] from 24 to 31 (fun t wc => wc = wo ∧ t = .bool (decide (k < l.length ∧ k < 3000)))
    case first =>
      by_cases h1 : k < l.length
      · by_cases h2 : k < 3000
        · have hd : decide (k < l.length ∧ k < 3000) = true := decide_eq_true ⟨h1, h2⟩
          have HD2 := Lib.hid hd
          have q1 : (k : Int) < (l.length : Int) := by omega
          have q2 : (k : Int) < 3000 := by omega
          clear hd
          go_wp2
          go_meet
          case rel => exact ⟨rfl, by rw [HD2.out]⟩
        · have hd : decide (k < l.length ∧ k < 3000) = false := decide_eq_false (fun h => h2 h.2)
          have HD2 := Lib.hid hd
          have q1 : (k : Int) < (l.length : Int) := by omega
          have q2 : ¬ (k : Int) < 3000 := by omega
          clear hd
          go_wp2
          go_meet
          case rel => exact ⟨rfl, by rw [HD2.out]⟩
      · have hd : decide (k < l.length ∧ k < 3000) = false := decide_eq_false (fun h => h1 h.1)
        have HD2 := Lib.hid hd
        have q1 : ¬ (k : Int) < (l.length : Int) := by omega
        clear hd
        go_wp2
        go_meet
        case rel => exact ⟨rfl, by rw [HD2.out]⟩
    case rest =>
    obtain ⟨rfl, rfl⟩ := hcut
    obtain ⟨wo, rfl⟩ : ∃ x, x = wc := ⟨_, rfl⟩
    by_cases hgo : k < l.length ∧ k < 3000
    · rw [decide_eq_true hgo]
      obtain ⟨h1, h2⟩ := hgo
      obtain ⟨g, off, rfl, e0, e1, e2, e3, e4, e5⟩ := st9_at (HR.out.below HT.out.rc.bel) k h1
      obtain ⟨kd, hkd⟩ : ∃ x, l[k].1.do_ = x := ⟨_, rfl⟩
      obtain ⟨who, hwho⟩ : ∃ x, l[k].1.who = x := ⟨_, rfl⟩
      obtain ⟨f, hff⟩ : ∃ x, l[k].1.field = x := ⟨_, rfl⟩
      obtain ⟨s, hss⟩ : ∃ x, l[k].1.s = x := ⟨_, rfl⟩
      obtain ⟨nn, hnn⟩ : ∃ x, wd l[k].1.n = x := ⟨_, rfl⟩
      obtain ⟨ct, hct⟩ : ∃ x, l[k].1.count = x := ⟨_, rfl⟩
      have hfz : f.size ≤ maxLen := hff ▸ l[k].2.1
      have hsz : s.size ≤ maxLen := hss ▸ l[k].2.2.1
      rw [hkd] at e0
      rw [hwho] at e1
      rw [hff] at e2
      rw [hss] at e3
      rw [hnn] at e4
      rw [hct] at e5
      obtain ⟨W, hW⟩ : ∃ W, wo.alloc (.cells #[.int .i64 kd, .int .i64 who, .string f, .string s, .int .u64 nn, .int .i64 ct] 55) = W := ⟨_, rfl⟩
      have hblk : W.heap[wo.heap.size]? = some (sBlk kd who f s nn ct) := by rw [← hW]; exact alloc_new wo _
      have HTW : Hid (Rt k w W r d F M A v) := by rw [← hW]; exact HT.out.quiet (Fr.alloc _ _ _)
      have HBLK := Lib.hid hblk
      obtain ⟨d0, d2, d3, -⟩ := sBlk_cells hblk
      have HFZ := Lib.hid hfz
      have HSZ := Lib.hid hsz
      have HOUT : Hid (∀ i, F i → i < wo.heap.size) := fun i hi => (HT.out.rc.rf.lt i hi).2
      have hrow := HTW.out.row
      obtain ⟨va, vc, rfl⟩ := ow_sliceN hrow
      have hfd := find_any W (.slice va A.length vc) A f (RdC.of_owns hrow)
      obtain ⟨at_, hat⟩ : ∃ a, fdI A f = a := ⟨_, rfl⟩
      rw [hat] at hfd
      have HFD := Lib.hid hfd
      have HAT := Lib.hid hat
      have hal : A.length ≤ 3000 := by have := HT.out.rc.few; omega
      clear hkd hwho hff hss hnn hct hblk hrow hfd hat HT
      go_wp2_with fail
      refine HFD.out.mono ?_
      rintro e w' ⟨rfl, rfl⟩
      clear HFD hW
      go_upto_block 2 with (fail)
      go_cut [6, 10, 11, 12, 13] from 42 to 137 (fun v _ _ _ _ wc => ∃ (F : Nat → Prop) (M : DM) (A : List Pr), Hid (Rt (k + 1) w wc r d F M A v))
      case first =>
        by_cases h0 : kd = 0
        · subst h0
          by_cases hfit : Fits (f, s)
          · have HFI := Lib.hid hfit
            go_wp2_with fail
            refine (rc_set w W k F r d M A f s HTW.out.rc hfit (by omega)).mono ?_
            rintro e w4 ⟨rfl, M', hrc, hsd, hfr⟩
            have hm : Rm (k + 1) w w4 r d (Grew F W w4) M' (setG A f s) A (.slice va A.length vc) := ⟨hrc, ow_fr HTW.out.row hfr HTW.out.aw, HTW.out.aw.own HTW.out.row⟩
            have HM := Lib.hid hm
            have hb4 := (hfr.block _ (Array.getElem?_eq_some_iff.1 HBLK.out).1 (fun hF => absurd (HOUT.out _ hF) (Nat.lt_irrefl _))).trans HBLK.out
            clear d0 d2 d3
            obtain ⟨d0, d2, d3, -⟩ := sBlk_cells hb4
            have hF1 := fits_any w4 f HFZ.out
            rw [decide_eq_true hfit.1] at hF1
            have hF2 := fits_any w4 s HSZ.out
            rw [decide_eq_true hfit.2] at hF2
            have HF1 := Lib.hid hF1
            have HF2 := Lib.hid hF2
            have HSZ4 : Hid (w.heap.size ≤ w4.heap.size) := HM.out.rc.bel.size
            clear hrc hsd hfr hm hb4 hF1 hF2 hfit
            cases hfd : fdG f A with
            | none =>
              obtain rfl : at_ = -1 := by rw [← HAT.out]; exact fdI_none hfd
              have HA : Hid (setG A f s = A ++ [(f, s)]) := setG_none hfd
              have hlen4 : A.length ≤ 3000 := hal
              clear hfd
              go_wp2_with fail
              refine HF1.out.mono ?_
              rintro e w' ⟨rfl, rfl⟩
              go_wp2_with fail
              refine HF2.out.mono ?_
              rintro e w' ⟨rfl, rfl⟩
              go_wp2_with (at_builtin; refine wpl_append2 rfl (.tmp 111) (.tmp 117) 47 rfl w.heap.size 51 i0 (.agg #[.string ⟨#[]⟩, .string ⟨#[]⟩]) 2 32 Try.underlying47 HI.out HZ0.out HZ1.out HZ2.out rfl (by decide) _ A.length _ rfl (HM.out.row.alloc _) _ 1 [.string f, .string s] rfl (RdC.of_owns (World.ownsRow_lit (e := 51) w4 #[.string f, .string s] 1 (Nat.le_refl _) (by decide) rfl)) (by simp [Value.oneCell']) (by unfold maxLen; omega) (by omega) (by rw [World.size_alloc]; have := HSZ4.out; omega) ?_; intro v' w8 hown hgrow hap; have HO8 := Lib.hid hown; have HG8 := Lib.hid hgrow; have HA8 := Lib.hid hap; clear hown hgrow hap)
              go_meet
              case rel => exact ⟨_, M', _, HM.out.app (x := (f, s)) (Fr.alloc _ _ _) HO8.out HG8.out HA8.out HA.out⟩
            | some i =>
              obtain rfl : at_ = (i : Int) := by rw [← HAT.out]; exact fdI_some hfd
              have hil := fdG_lt hfd
              obtain ⟨y, hy⟩ := fdG_some hfd
              have hA : setG A f s = A.set i ((A[i]).1, s) := by
                rw [setG_some hfd]
                congr 1
                rw [List.getElem?_eq_getElem hil] at hy
                rw [Option.some.inj hy]
              have HA := Lib.hid hA
              obtain ⟨ga, rfl, -, p2, -, z2⟩ := rowP_at HM.out.row rfl i hil
              have gi : ¬ (i : Int) < 0 := by omega
              have gj : (0 : Int) ≤ (i : Int) := by omega
              have gk : (i : Int) < (A.length : Int) := by omega
              clear hfd hy hA
              go_wp2_with fail
              refine HF1.out.mono ?_
              rintro e w' ⟨rfl, rfl⟩
              go_wp2_with fail
              refine HF2.out.mono ?_
              rintro e w' ⟨rfl, rfl⟩
              go_wp2_with fail
              go_meet
              case rel => exact ⟨_, M', _, HM.out.put rfl i hil s HA.out⟩
          · have HT2 : Hid (Rt (k + 1) w W r d F M A (.slice va A.length vc)) := HTW.out.mono (Nat.le_succ _)
            have hF1 := fits_any W f HFZ.out
            have hF2 := fits_any W s HSZ.out
            by_cases hf1 : f.size ≤ 1048576
            · have hf2 : ¬ s.size ≤ 1048576 := fun h => hfit ⟨hf1, h⟩
              rw [decide_eq_true hf1] at hF1
              rw [decide_eq_false hf2] at hF2
              have HF1 := Lib.hid hF1
              have HF2 := Lib.hid hF2
              clear hF1 hF2 hf1 hf2
              go_wp2_with fail
              refine (recSet_long W r f s HFZ.out HSZ.out hfit).mono ?_
              rintro e w' ⟨rfl, rfl⟩
              go_wp2_with fail
              refine HF1.out.mono ?_
              rintro e w' ⟨rfl, rfl⟩
              go_wp2_with fail
              refine HF2.out.mono ?_
              rintro e w' ⟨rfl, rfl⟩
              go_wp2_with fail
              go_meet
              case rel => exact ⟨_, M, _, HT2⟩
            · rw [decide_eq_false hf1] at hF1
              have HF1 := Lib.hid hF1
              clear hF1 hF2 hf1
              go_wp2_with fail
              refine (recSet_long W r f s HFZ.out HSZ.out hfit).mono ?_
              rintro e w' ⟨rfl, rfl⟩
              go_wp2_with fail
              refine HF1.out.mono ?_
              rintro e w' ⟨rfl, rfl⟩
              go_wp2_with fail
              go_meet
              case rel => exact ⟨_, M, _, HT2⟩
        · have g0 : (kd == 0) = false := beq_eq_false_iff_ne.2 h0
          by_cases h2' : kd = 2
          · subst h2'
            clear d3
            have hcase : (fdG f A).isSome = decide (0 ≤ at_) := by
              rw [← HAT.out]
              cases hfd : fdG f A with
              | none => rw [fdI_none hfd]; rfl
              | some i => rw [fdI_some hfd]; simp
            have hwo := without_any
            go_wp2_with fail
            refine (rc_del w W k F r d M A f HTW.out.rc HFZ.out).mono ?_
            rintro e w4 ⟨rfl, M', hrc, hsd, hfr⟩
            have hm : Rm (k + 1) w w4 r d (Grew F W w4) M' (delG A f) A (.slice va A.length vc) := ⟨hrc.mono (Nat.le_succ _), ow_fr HTW.out.row hfr HTW.out.aw, HTW.out.aw.own HTW.out.row⟩
            have HM := Lib.hid hm
            rw [hcase]
            have HWO := Lib.hid (without_any w4 (.slice va A.length vc) A at_ (RdC.of_owns hm.row) (by omega))
            have gb : (decide (0 ≤ at_) != decide (0 ≤ at_)) = false := by simp
            obtain ⟨bb, hbb⟩ : ∃ b, decide (0 ≤ at_) = b := ⟨_, rfl⟩
            have gb2 : (bb != bb) = false := by simp
            have hbb2 : decide ((0 : Int) ≤ at_) = bb := hbb
            rw [hbb]
            clear hrc hsd hfr hm hcase hwo gb hbb
            go_wp2_with fail
            refine HWO.out.mono ?_
            rintro e w5 ⟨v5, rfl, hr5, hb5⟩
            rw [← HAT.out, dropI_fd] at hr5
            have HT5 : Hid (Rt (k + 1) w w5 r d (Grew F W w4) M' (delG A f) v5) := ⟨HM.out.rc.quiet (fr_bel hb5), ow_base hr5 HM.out.rc.bel.size, HM.out.rc.away hr5⟩
            clear hr5 hb5 HWO
            go_wp2_with fail
            go_meet
            case rel => exact ⟨_, M', _, HT5⟩
          · have g2 : (kd == 2) = false := beq_eq_false_iff_ne.2 h2'
            clear d3
            have hget := rc_get w W k F r d M A f HTW.out.rc HFZ.out
            cases hfd : fdG f A with
            | none =>
              obtain rfl : at_ = -1 := by rw [← HAT.out]; exact fdI_none hfd
              rw [valG_none hfd, hfd] at hget
              have HGET := Lib.hid hget
              clear hget hfd
              go_wp2_with fail
              refine HGET.out.mono ?_
              rintro e w4 ⟨rfl, M', hrc, hsd, hfr⟩
              have HM : Hid (Rt (k + 1) w w4 r d (Grew F W w4) M' A (.slice va A.length vc)) := ⟨hrc.mono (Nat.le_succ _), ow_fr HTW.out.row hfr HTW.out.aw, HTW.out.aw.own HTW.out.row⟩
              clear hrc hsd hfr
              go_wp2_with fail
              go_meet
              case rel => exact ⟨_, M', _, HM⟩
            | some i =>
              obtain rfl : at_ = (i : Int) := by rw [← HAT.out]; exact fdI_some hfd
              have hil := fdG_lt hfd
              obtain ⟨y, hy⟩ := fdG_some hfd
              rw [valG_some hfd hy, hfd] at hget
              have HGET := Lib.hid hget
              have hyy : (A[i]).2 = y := by rw [List.getElem?_eq_getElem hil] at hy; rw [Option.some.inj hy]
              have HYY := Lib.hid hyy
              have gi : ¬ (i : Int) < 0 := by omega
              have gj : (0 : Int) ≤ (i : Int) := by omega
              have gk : (i : Int) < (A.length : Int) := by omega
              clear hget hfd hy hyy
              go_wp2_with fail
              refine HGET.out.mono ?_
              rintro e w4 ⟨rfl, M', hrc, hsd, hfr⟩
              have hm : Rt (k + 1) w w4 r d (Grew F W w4) M' A (.slice va A.length vc) := ⟨hrc.mono (Nat.le_succ _), ow_fr HTW.out.row hfr HTW.out.aw, HTW.out.aw.own HTW.out.row⟩
              have HM := Lib.hid hm
              obtain ⟨ga, rfl, -, p2, -, -⟩ := rowP_at hm.row rfl i hil
              rw [HYY.out] at p2
              have hq2 : (y.toList != y.toList) = false := by simp
              clear hrc hsd hfr hm
              go_wp2_with fail
              go_meet
              case rel => exact ⟨_, M', _, HM⟩
      case rest =>
      obtain ⟨F, M, A, HT⟩ := hcut
      obtain ⟨v, rfl⟩ : ∃ v, v = u6 := ⟨_, rfl⟩
      obtain ⟨w5, rfl⟩ : ∃ x, x = wc := ⟨_, rfl⟩
      have hrow := HT.out.row
      obtain ⟨va, vc, rfl⟩ := ow_sliceN hrow
      have HL := Lib.hid (recLen_any w5 _ F r d M A HT.out.rc.rf)
      have g0 : ((A.length : Int) != (A.length : Int)) = false := by simp
      clear hrow
      go_wp2_with fail
      refine HL.out.mono ?_
      rintro e w' ⟨rfl, rfl⟩
      go_wp2_with fail
      go_roundw
      case rel => exact ⟨k + 1, F, M, A, by go_num, by omega, by omega, HT⟩
      case measure => simp [intOf]; omega
    · rw [decide_eq_false hgo]
      clear hgo HR
      have hal : A.length ≤ 3000 := by have := HT.out.rc.few; omega
      go_wp2_with fail
      refine (pairs_any wo _ F r d M A HT.out.rc.rf).mono ?_
      rintro e w5 ⟨vl, lp, rfl, q1, q2, q3, q4⟩
      have HT5 := Lib.hid (HT.out.quiet q4)
      have Q1 := Lib.hid q1
      have Q2 := Lib.hid q2
      have hll2 := q1.length_eq
      rw [← hll2] at q3
      obtain ⟨la, lc, rfl⟩ := ow_sliceN q3
      have Q3 := Lib.hid q3
      have hrow := HT5.out.row
      obtain ⟨va, vc, rfl⟩ := ow_sliceN hrow
      have hlp : lp.length ≤ 3000 := by omega
      have HLL := Lib.hid hll2
      have HND : Hid ((A.map (·.1)).Nodup) := HT.out.rc.rf.like.nodup
      have HFIT : Hid (∀ x ∈ lp, Fits x) := fun x hx => HT.out.rc.rf.fit x (q1.mem_iff.1 hx)
      have hcle : costP lp ≤ 6291552000 := by
        have h1 := costP_le HFIT.out
        omega
      have hcA : costP lp = costP A := costP_perm q1
      have HCA := Lib.hid hcA
      clear q1 q2 q3 q4 hll2 hrow HT hcA
      go_wp2_with fail
      go_loopw [15, 16] (fun c i wr => ∃ (j : Nat), i = .int .i64 j ∧ j ≤ lp.length ∧ Hid (c = .int .i64 (costP (lp.take j) : Nat)) ∧ Hid (Fr (fun _ => False) w5 wr)) (fun _ i _ => lp.length - (intOf i).toNat)
      case atStart => exact ⟨0, rfl, by omega, rfl, Fr.refl _ _⟩
      case round =>
        obtain ⟨j, rfl, hj, HC, HF⟩ := hrel
        obtain ⟨cc, rfl⟩ : ∃ c, c = u15 := ⟨_, rfl⟩
        obtain ⟨wo, rfl⟩ : ∃ wo, wo = wr := ⟨_, rfl⟩
        have hcv := HC.out
        subst hcv
        by_cases hlt : j < lp.length
        · have HTo := Lib.hid (HT5.out.quiet HF.out)
          have HLo : Hid (wo.ownsRow _ 51 2 (.slice la lp.length lc) lp.length (lp.flatMap encP)) := ow_fr Q3.out HF.out (fun _ _ h => h)
          obtain ⟨gl, rfl, p1, p2, -, -⟩ := rowP_at HLo.out rfl j hlt
          obtain ⟨x, hx⟩ : ∃ x, lp[j] = x := ⟨_, rfl⟩
          rw [hx] at p1 p2
          have hxA : x ∈ A := Q1.out.mem_iff.1 (by rw [← hx]; exact List.getElem_mem hlt)
          obtain ⟨i, hi, hix⟩ := List.getElem_of_mem hxA
          have hfd : fdI A x.1 = (i : Int) := fdI_some (fdG_nodup HND.out (by rw [List.getElem?_eq_getElem hi, hix]))
          obtain ⟨ga, rfl, -, a2, -, -⟩ := rowP_at HTo.out.row rfl i hi
          rw [hix] at a2
          have hfin := find_any wo (.slice (some ⟨ga, 0, none⟩) A.length vc) A x.1 (RdC.of_owns HTo.out.row)
          rw [hfd] at hfin
          have HFIN := Lib.hid hfin
          have hfx := HFIT.out x (by rw [← hx]; exact List.getElem_mem hlt)
          have hcn : costP (lp.take (j + 1)) = costP (lp.take j) + prC x := by rw [List.take_succ_eq_append_getElem hlt, hx, costP_snoc]
          have hcl : costP (lp.take j) + prC x ≤ 6291552000 := by
            rw [← hcn]
            have h1 := costP_le (A := lp.take (j + 1)) (fun y hy => HFIT.out y (List.mem_of_mem_take hy))
            have h2 : (lp.take (j + 1)).length ≤ 3000 := by rw [List.length_take]; omega
            omega
          have HCN := Lib.hid hcn
          obtain ⟨cj, hcj⟩ : ∃ c, costP (lp.take j) = c := ⟨_, rfl⟩
          rw [hcj] at hcl HCN ⊢
          have HX := Lib.hid hx
          obtain ⟨x1, x2⟩ := x
          obtain ⟨hs1, hs2⟩ := hfx
          dsimp only at p1 p2 a2 hs1 hs2 HFIN
          have b0 : (0 : Int) ≤ (j : Int) := by omega
          have b1 : (j : Int) < (lp.length : Int) := by omega
          have b2 : (0 : Int) ≤ (i : Int) := by omega
          have b3 : (i : Int) < (A.length : Int) := by omega
          have b4 : ¬ (i : Int) < 0 := by omega
          have b5 : decide ((i : Int) < 0) = false := decide_eq_false b4
          have hq : (x2.toList != x2.toList) = false := by simp
          have e1 : IntKind.i64.wrap (32 + (x1.size : Int)) = 32 + (x1.size : Int) := IntWalk.i64_in _ (by omega)
          have e2 : IntKind.i64.wrap (32 + (x1.size : Int) + (x2.size : Int)) = 32 + (x1.size : Int) + (x2.size : Int) := IntWalk.i64_in _ (by omega)
          have e3 : IntKind.i64.wrap ((cj : Int) + (32 + (x1.size : Int) + (x2.size : Int))) = (cj : Int) + (32 + (x1.size : Int) + (x2.size : Int)) := IntWalk.i64_in _ (by unfold prC at hcl; dsimp only at hcl; omega)
          have HCE : Hid (((cj : Int) + (32 + (x1.size : Int) + (x2.size : Int))) = ((costP (lp.take (j + 1)) : Nat) : Int)) := by
            show _ = _
            rw [HCN.out]
            unfold prC
            simp
          clear hfd hfin hcn hcl hcj hx hxA hix HFIT
          by_cases h0 : 0 < j
          · have g0 : decide ((0 : Int) < (j : Int)) = true := by rw [decide_eq_true_eq]; omega
            have hprev : lp[j - 1]'(by omega) ∈ lp := List.getElem_mem _
            obtain ⟨gl2, hgl2, r1, -, -, -⟩ := rowP_at HLo.out rfl (j - 1) (by omega)
            cases hgl2
            obtain ⟨y, hy⟩ : ∃ y, (lp[j - 1]'(by omega)).1 = y := ⟨_, rfl⟩
            rw [hy] at r1
            have hlt2 : y.toList < x1.toList := by
              have h1 := List.pairwise_iff_getElem.1 Q2.out (j - 1) j (by omega) hlt (by omega)
              unfold ltP at h1
              rw [HX.out, hy] at h1
              exact h1
            have k1 : Op.bytesLess x1.toList y.toList = false := by rw [bytesLess_eq]; exact decide_eq_false (fun h => absurd (List.lt_trans h hlt2) (List.lt_irrefl _))
            have k2 : (x1.toList == y.toList) = false := by
              rw [beq_eq_false_iff_ne]
              intro e
              rw [e] at hlt2
              exact absurd hlt2 (List.lt_irrefl _)
            have b6 : (j : Int) - 1 < (lp.length : Int) := by omega
            have b7 : (0 : Int) ≤ (j : Int) - 1 := by omega
            have e4 : IntKind.i64.wrap ((j : Int) - 1) = (j : Int) - 1 := IntWalk.i64_in _ (by omega)
            clear hprev hy hlt2
            go_wp2_with fail
            refine HFIN.out.mono ?_
            rintro e w' ⟨rfl, rfl⟩
            go_upto_region 36 with (fail)
            go_quiet (fail)
            go_upto_region 38 with (fail)
            go_quiet (fail)
            go_wp2_with fail
            go_roundw
            case rel =>
              refine ⟨j + 1, by go_num, by omega, ?_, ?_⟩
              · show _ = _
                rw [← HCE.out]
              · exact HF.out.thenDrewN _
            case measure => simp [intOf]; omega
          · have h0' : j = 0 := by omega
            have g0 : decide ((0 : Int) < (j : Int)) = false := by rw [decide_eq_false_iff_not]; omega
            have g00 : decide (0 < j) = false := by rw [decide_eq_false_iff_not]; omega
            clear h0 h0'
            go_wp2_with fail
            refine HFIN.out.mono ?_
            rintro e w' ⟨rfl, rfl⟩
            go_upto_region 36 with (fail)
            go_quiet (fail)
            go_upto_region 38 with (fail)
            go_quiet (fail)
            go_wp2_with fail
            go_roundw
            case rel =>
              refine ⟨j + 1, by go_num, by omega, ?_, ?_⟩
              · show _ = _
                rw [← HCE.out]
              · exact HF.out.thenDrewN _
            case measure => simp [intOf]; omega
        · obtain rfl : j = lp.length := by omega
          rw [List.take_length, HCA.out]
          have HTo := Lib.hid (HT5.out.quiet HF.out)
          have hk1 : Fits (⟨#[110, 101, 119, 32, 111, 110, 101]⟩, ⟨#[118]⟩) := by unfold Fits; decide
          have hset := rc_set w wo k F r d M A ⟨#[110, 101, 119, 32, 111, 110, 101]⟩ ⟨#[118]⟩ HTo.out.rc hk1 (by omega)
          have hprc : prC (⟨#[110, 101, 119, 32, 111, 110, 101]⟩, ⟨#[118]⟩) = 40 := by decide
          obtain ⟨key, hkey⟩ : ∃ key : ByteArray, (⟨#[110, 101, 119, 32, 111, 110, 101]⟩ : ByteArray) = key := ⟨_, rfl⟩
          rw [hkey] at hset hprc
          have HK := Lib.hid hkey
          rw [HCA.out] at hcle
          obtain ⟨cA, hcA⟩ : ∃ c, costP A = c := ⟨_, rfl⟩
          rw [hcA] at hcle
          have g9 : ((lp.length : Int) == (A.length : Int)) = true := by rw [beq_iff_eq, HLL.out]
          have HCC := Lib.hid hcA
          rw [hcA]
          clear hcA
          cases hfd : fdG key A with
          | none =>
            rw [hfd] at hset
            have HSET := Lib.hid hset
            have HA : Hid (setG A key ⟨#[118]⟩ = A ++ [(key, ⟨#[118]⟩)]) := setG_none hfd
            have HFI : Hid (fdI A key = -1) := fdI_none hfd
            have e1 : IntKind.i64.wrap ((cA : Int) + 32) = (cA : Int) + 32 := IntWalk.i64_in _ (by omega)
            have e2 : IntKind.i64.wrap ((cA : Int) + 32 + 7) = (cA : Int) + 32 + 7 := IntWalk.i64_in _ (by omega)
            have e3 : IntKind.i64.wrap ((cA : Int) + 32 + 7 + 1) = (cA : Int) + 32 + 7 + 1 := IntWalk.i64_in _ (by omega)
            clear hset hfd
            go_wp2_with (fail)
            try rw [HK.out]
            refine HSET.out.mono ?_
            rintro e w6 ⟨rfl, M', hrc, hsd, hfr⟩
            have hm : Rm (k + 1) w w6 r d (Grew F wo w6) M' (setG A key ⟨#[118]⟩) A (.slice va A.length vc) := ⟨hrc, ow_fr HTo.out.row hfr HTo.out.aw, HTo.out.aw.own HTo.out.row⟩
            have hfin := find_any w6 (.slice va A.length vc) A key (RdC.of_owns hm.row)
            rw [HFI.out] at hfin
            have hco := recCost_any w6 _ _ r d M' _ hrc.rf
            have hcs : ((costP (setG A key ⟨#[118]⟩) : Nat) : Int) = (cA : Int) + 32 + 7 + 1 := by rw [HA.out, costP_snoc, HCC.out, hprc]; omega
            rw [hcs] at hco
            have HFIN := Lib.hid hfin
            have HCO := Lib.hid hco
            have HM := Lib.hid hm
            have g8 : (((cA : Int) + 32 + 7 + 1) == ((cA : Int) + 32 + 7 + 1)) = true := by simp
            clear hrc hsd hfr hm hfin hco hcs hprc
            go_wp2_with fail
            try rw [HK.out]
            refine HFIN.out.mono ?_
            rintro e w' ⟨rfl, rfl⟩
            go_wp2_with fail
            refine HCO.out.mono ?_
            rintro e w' ⟨rfl, rfl⟩
            go_wp2_with fail
            go_ret
            exact ⟨rfl, HM.out.rc.bel⟩
          | some i =>
            rw [hfd] at hset
            have HSET := Lib.hid hset
            have HFI : Hid (fdI A key = (i : Int)) := fdI_some hfd
            have b4 : ¬ (i : Int) < 0 := by omega
            clear hset hfd
            go_wp2_with (fail)
            try rw [HK.out]
            refine HSET.out.mono ?_
            rintro e w6 ⟨rfl, M', hrc, hsd, hfr⟩
            have hm : Rm (k + 1) w w6 r d (Grew F wo w6) M' (setG A key ⟨#[118]⟩) A (.slice va A.length vc) := ⟨hrc, ow_fr HTo.out.row hfr HTo.out.aw, HTo.out.aw.own HTo.out.row⟩
            have hfin := find_any w6 (.slice va A.length vc) A key (RdC.of_owns hm.row)
            rw [HFI.out] at hfin
            have HFIN := Lib.hid hfin
            have HM := Lib.hid hm
            clear hrc hsd hfr hm hfin hprc
            go_wp2_with fail
            try rw [HK.out]
            refine HFIN.out.mono ?_
            rintro e w' ⟨rfl, rfl⟩
            go_wp2_with fail
            go_ret
            exact ⟨rfl, HM.out.rc.bel⟩
end Go.Proofs.Ytgomilodeaafdaa

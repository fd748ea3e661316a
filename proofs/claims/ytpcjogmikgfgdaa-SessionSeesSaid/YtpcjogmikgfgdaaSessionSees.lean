/- SessionSees: a session is dirty just if a key was touched while it was watched, since it watches nothing. No condition. -/
import Derived.Test.YtpcjogmikgfgdaaSees
import Derived.Deep.AppendLies
import Derived.Outline
namespace Go.Proofs.Ytpcjogmikgfgdaa
open Go.ChangeShapes Go.WideShapes Go.ChangeAt Go.RowKit
set_option maxRecDepth 100000 in
set_option maxHeartbeats 8000000 in
theorem sessionSees_walk (w : World) (v0 : Value) (l : List St) (hr : RdC w 4 v0 l.length (l.flatMap stCells)) (hby : l.length * 48 ≤ 140737488351232) (hok : ∀ o ∈ l, StOk w o) :
    Calls Try.prog 5 #[v0] w fun e w' => e = .returned (.bool true) ∧ Below w.heap.size w w' := by
  have HR := Lib.hid hr
  have HOK := Lib.hid hok
  obtain ⟨-, sa, sc, rfl, -⟩ := hr
  obtain ⟨i0, hi, hz0, hz1, hz2⟩ := info_parts infoS
  have HI := Lib.hid hi
  have HZ0 := Lib.hid hz0
  have HZ1 := Lib.hid hz1
  have HZ2 := Lib.hid hz2
  clear hok hi hz0 hz1 hz2
  go_enter Try.func5, Try.ntmps5
  go_wp2_with fail
  refine (wakes26_any _).mono ?_
  rintro e w1 ⟨rfl, hb1⟩
  have HB1 := Lib.hid hb1
  clear hb1
  go_wp2_with fail
  refine (newSess_any _).mono ?_
  intro e w2 hnp
  obtain ⟨p, m, rfl, hs, hb⟩ := sessF_new hnp
  have HK0 : Hid (Sw w (fun k => w1.heap.size ≤ k ∧ k < w2.heap.size) p m (.slice none 0 0) (.slice none 0 0) ⟨false, false, false, [], []⟩ w2) :=
    ⟨hs.base HB1.out.size, World.ownsRow_nil _ _ _ _, fun g hg => by (cases hg), HB1.out.trans (hb.mono HB1.out.size)⟩
  clear hs hb HB1 hnp
  go_wp2_with fail
  go_loopw [4, 5, 24] (fun vw di i wr => ∃ (k : Nat) (S : SS) (vq : Value) (F : Nat → Prop), i = .int .i64 k ∧ k ≤ l.length ∧ di = .bool S.di ∧ Hid (Sw w F p m vq vw S wr)) (fun _ _ i _ => l.length - (intOf i).toNat)
  case atStart => exact ⟨0, _, _, _, rfl, by omega, rfl, HK0.out⟩
  case round =>
    obtain ⟨k, ⟨op, sp, di, q, wt⟩, vq, F, rfl, hk, rfl, HK⟩ := hrel
    obtain ⟨wo, rfl⟩ : ∃ x, x = wr := ⟨_, rfl⟩
    clear HK0
    obtain ⟨ka, kc, rfl⟩ := owns_sliceN HK.out.row
    by_cases hlt : k < l.length
    · obtain ⟨g, off, rfl, d0, d1, d2, d3⟩ := st_at (HR.out.below HK.out.bel) k hlt
      have hso := HOK.out _ (List.getElem_mem hlt)
      obtain ⟨o, ho⟩ : ∃ o, l[k] = o := ⟨_, rfl⟩
      rw [ho] at d0 d1 d2 d3 hso
      clear ho
      obtain ⟨who, dd, nn, wv, ws⟩ := o
      have HSO := Lib.hid hso
      obtain ⟨-, wa, wc, hwv, -⟩ := hso.rd
      obtain rfl : wv = .slice wa ws.length wc := hwv
      have hb0i : (0 : Int) ≤ (k : Int) := by omega
      have hb1i : (k : Int) < (l.length : Int) := by omega
      clear hso
      dsimp only at d0 d1 d2 d3
      go_upto_block 2 with (fail)
      obtain ⟨W, hW⟩ : ∃ W, wo.alloc (.cells #[.int .i64 who, .int .i64 dd, .int .i64 nn, .slice wa ws.length wc] 43) = W := ⟨_, rfl⟩
      have HBX : Hid (W.heap[wo.heap.size]? = some (.cells #[.int .i64 who, .int .i64 dd, .int .i64 nn, .slice wa ws.length wc] 43 (0, 0))) := by rw [← hW]; exact alloc_at _ _
      have HKW : Hid (Sw w F p m vq (.slice ka wt.length kc) ⟨op, sp, di, q, wt⟩ W) := by rw [← hW]; exact HK.out.quiet (Fr.alloc _ _ _)
      have HNB : Hid (¬ F wo.heap.size) := fun e => by have := (HK.out.f.lt _ e).2; omega
      have HWW := Lib.hid hW
      have hbel : Hid (Below w.heap.size w W) := HKW.out.bel
      clear d0 d1 d2 d3 hW
      go_cut [4, 5, 9, 10, 11, 12, 14, 15] from 30 to 141 (fun vw' di' _ _ _ _ _ _ wc => ∃ (S : SS) (vq' : Value) (F' : Nat → Prop), di' = .bool S.di ∧ Hid (Sw w F' p m vq' vw' S wc))
      case first =>
        by_cases h4 : dd = 4
        · have g4 : (dd == 4) = true := beq_iff_eq.2 h4
          have e3 : W.cell? ⟨wo.heap.size, 3, none⟩ = some (.slice wa ws.length wc) := by rw [cell_of_blk HBX.out]; rfl
          clear h4
          have hwl : ws.length ≤ 8796093022208 := by have := HSO.out.by_; dsimp only at this; omega
          go_wp2_with fail
          rw [HWW.out]
          go_loopw [4, 45] (fun vw2 j wr => ∃ (k2 : Nat) (wt2 : List ByteArray), j = .int .i64 k2 ∧ k2 ≤ ws.length ∧ Hid (Sw w F p m vq vw2 ⟨op, sp, di, q, wt2⟩ wr)) (fun _ j _ => ws.length - (intOf j).toNat)
          case atStart => exact ⟨0, _, rfl, by omega, HKW.out⟩
          case round =>
            obtain ⟨k2, wt2, rfl, hk2, HK2⟩ := hrel
            obtain ⟨wp, rfl⟩ : ∃ x, x = wr := ⟨_, rfl⟩
            clear e3
            by_cases hlt2 : k2 < ws.length
            · obtain ⟨g5, o5, rfl, dx⟩ := texts_at (HSO.out.rd.below HK2.out.bel) k2 hlt2
              obtain ⟨x, hx⟩ : ∃ x, ws[k2] = x := ⟨_, rfl⟩
              have hxs : x.size ≤ maxLen := by rw [← hx]; exact HSO.out.sz _ (List.getElem_mem hlt2)
              rw [hx] at dx
              obtain ⟨kb, kd, rfl⟩ := owns_sliceN HK2.out.row
              have hb0j : (0 : Int) ≤ (k2 : Int) := by omega
              have hb1j : (k2 : Int) < (ws.length : Int) := by omega
              have HXS := Lib.hid hxs
              clear hx hxs
              go_wp2_with fail
              refine (open_any wp _ p m _ _ HK2.out.f.s).mono ?_
              rintro e w' ⟨rfl, rfl⟩
              dsimp only
              cases op
              · by_cases hin : x ∈ wt2
                · have HIN : Hid (inL x wt2 = true) := inL_iff.2 hin
                  go_wp2_with fail
                  refine (watch_old wp _ p m vq sp di q wt2 x HK2.out.f.s HXS.out hin).mono ?_
                  rintro e w' ⟨rfl, rfl⟩
                  clear hin
                  go_wp2_with fail
                  refine (among26_any wp _ wt2 x (RdC.of_owns HK2.out.row)).mono ?_
                  rintro e w' ⟨rfl, rfl⟩
                  rw [HIN.out]
                  go_wp2
                  go_roundw
                  case rel => exact ⟨k2 + 1, wt2, by go_num, by omega, HK2.out⟩
                  case measure => simp [intOf]; omega
                · have HIN : Hid (inL x wt2 = false) := inL_no hin
                  by_cases hfl : wt2.length < 1024
                  · have q1 : decide (1024 ≤ (wt2.length : Int)) = false := by rw [decide_eq_false_iff_not]; omega
                    have q2 : decide ((wt2.length : Int) < 1024) = true := by rw [decide_eq_true_eq]; omega
                    go_wp2_with fail
                    refine (watch_new wp _ p m vq sp di q wt2 x HK2.out.f.s HXS.out hin hfl).mono ?_
                    rintro e w3 ⟨rfl, hs, hf⟩
                    have hf0 : Fr (fun i => i = p ∨ i = m) wp w3 := hf.mono (fun _ h _ => .inr h)
                    have HRW := Lib.hid (owns_fr HK2.out.row (fr_two hf0 HK2.out.f.fp HK2.out.f.fm) HK2.out.nf)
                    have HS3 := Lib.hid hs
                    have HF3 := Lib.hid hf
                    have HZ3 : Hid (w.heap.size ≤ w3.heap.size) := Nat.le_trans HK2.out.bel.size hf.size
                    clear hin hs hf hf0
                    go_wp2_with fail
                    refine (among26_any w3 _ wt2 x (RdC.of_owns HRW.out)).mono ?_
                    rintro e w' ⟨rfl, rfl⟩
                    rw [HIN.out]
                    go_wp2_with (at_builtin; refine wpList_append_lies _ rfl (.tmp 113) (.tmp 115) 41 rfl w.heap.size 9 i0 (.string ⟨#[]⟩) 1 16 Try.underlying41 HI.out HZ0.out HZ1.out HZ2.out rfl (by decide) _ wt2.length _ rfl (HRW.out.alloc _) ⟨w3.heap.size, 0, none⟩ 1 1 [.string x] rfl rfl (cell_one_new _ _ _) (by simp [Value.oneCell']) (by decide) (by unfold maxLen; omega) (by omega) (by have := HZ3.out; simp; omega) (w3.heap.size + 1) (by simp) ?_; intro g2 cap2 w4 hown hgrow hat hlt; have HK4 := Lib.hid (HK2.out.app HS3.out HF3.out (Fr.alloc (fun _ => False) w3 _) hown hgrow (fun g hg => by cases hg; exact hat.imp id (fun h => by rw [h]; simp))); clear hown hgrow hat hlt)
                    go_roundw
                    case rel => exact ⟨k2 + 1, _, by go_num, by omega, HK4.out⟩
                    case measure => simp [intOf]; omega
                  · have q1 : decide (1024 ≤ (wt2.length : Int)) = true := by rw [decide_eq_true_eq]; omega
                    have q2 : decide ((wt2.length : Int) < 1024) = false := by rw [decide_eq_false_iff_not]; omega
                    go_wp2_with fail
                    refine (watch_full wp _ p m vq sp di q wt2 x HK2.out.f.s HXS.out hin (by omega)).mono ?_
                    rintro e w' ⟨rfl, rfl⟩
                    clear hin
                    go_wp2_with fail
                    refine (among26_any wp _ wt2 x (RdC.of_owns HK2.out.row)).mono ?_
                    rintro e w' ⟨rfl, rfl⟩
                    rw [HIN.out]
                    go_wp2
                    go_roundw
                    case rel => exact ⟨k2 + 1, wt2, by go_num, by omega, HK2.out⟩
                    case measure => simp [intOf]; omega
              · go_wp2_with fail
                refine (watch_shut wp _ p m vq sp di q wt2 x HK2.out.f.s).mono ?_
                rintro e w' ⟨rfl, rfl⟩
                go_wp2_with fail
                refine (among26_any wp _ wt2 x (RdC.of_owns HK2.out.row)).mono ?_
                rintro e w' ⟨rfl, rfl⟩
                go_wp2
                go_roundw
                case rel => exact ⟨k2 + 1, wt2, by go_num, by omega, HK2.out⟩
                case measure => simp [intOf]; omega
            · go_wp2
              go_meet
              case rel => exact ⟨_, _, _, rfl, HK2.out⟩
        have g4 : (dd == 4) = false := beq_eq_false_iff_ne.2 h4
        by_cases h6 : dd = 6
        · have g6 : (dd == 6) = true := beq_iff_eq.2 h6
          have e3 : W.cell? ⟨wo.heap.size, 3, none⟩ = some (.slice wa ws.length wc) := by rw [cell_of_blk HBX.out]; rfl
          have hwl : ws.length ≤ 8796093022208 := by have := HSO.out.by_; dsimp only at this; omega
          clear h4 h6
          go_wp2_with fail
          rw [HWW.out]
          refine (touch_any W _ p m _ op sp di q wt _ ws HKW.out.f.s (fun W' hf => HSO.out.rd.below (hbel.out.trans (hf.below hbel.out.size (fun i e => by rw [e]; exact HKW.out.f.s.bp)))) HSO.out.sz).mono ?_
          rintro e w3 ⟨rfl, hs, hf⟩
          have HK3 := Lib.hid (HKW.out.turn (S' := ⟨op, sp, di || ws.any (fun k => inL k wt), q, wt⟩) hs (hf.mono (fun _ h _ => .inl h)) rfl)
          have HBX3 : Hid (w3.heap[wo.heap.size]? = some (.cells #[.int .i64 who, .int .i64 dd, .int .i64 nn, .slice wa ws.length wc] 43 (0, 0))) :=
            (hf.block _ (Array.getElem?_eq_some_iff.1 HBX.out).1 (fun e => HNB.out (by rw [e]; exact HKW.out.f.fp))).trans HBX.out
          have e33 : w3.cell? ⟨wo.heap.size, 3, none⟩ = some (.slice wa ws.length wc) := by rw [cell_of_blk HBX3.out]; rfl
          clear hs hf e3
          go_wp2_with fail
          go_loop [5, 127] (fun dj j => ∃ k2 : Nat, j = .int .i64 k2 ∧ k2 ≤ ws.length ∧ dj = .bool (di || (ws.take k2).any (fun x => inL x wt))) (fun _ j => ws.length - (intOf j).toNat)
          case atStart => exact ⟨0, rfl, by omega, by simp⟩
          case round =>
            obtain ⟨k2, rfl, hk2, rfl⟩ := hrel
            clear e33
            by_cases hlt2 : k2 < ws.length
            · obtain ⟨g5, o5, rfl, dx⟩ := texts_at (HSO.out.rd.below HK3.out.bel) k2 hlt2
              have hdt := dirty_take di wt ws k2 hlt2
              obtain ⟨x, hx⟩ : ∃ x, ws[k2] = x := ⟨_, rfl⟩
              rw [hx] at dx hdt
              obtain ⟨b, hb⟩ : ∃ b, (di || (ws.take k2).any (fun x => inL x wt)) = b := ⟨_, rfl⟩
              rw [hb] at hdt
              have hb0j : (0 : Int) ≤ (k2 : Int) := by omega
              have hb1j : (k2 : Int) < (ws.length : Int) := by omega
              have HDT := Lib.hid hdt
              rw [hb]
              clear hx hdt hb
              cases b
              · go_wp2_with fail
                refine (among26_any w3 _ wt x (RdC.of_owns HK3.out.row)).mono ?_
                rintro e w' ⟨rfl, rfl⟩
                go_wp2
                go_round
                case rel => exact ⟨k2 + 1, by go_num, by omega, by rw [HDT.out]; rfl⟩
                case measure => simp [intOf]; omega
              · go_wp2
                go_round
                case rel => exact ⟨k2 + 1, by go_num, by omega, by rw [HDT.out]; rfl⟩
                case measure => simp [intOf]; omega
            · obtain rfl : k2 = ws.length := by omega
              rw [List.take_length]
              go_wp2
              go_meet
              case rel => exact ⟨_, _, _, rfl, HK3.out⟩
        have g6 : (dd == 6) = false := beq_eq_false_iff_ne.2 h6
        by_cases h5 : dd = 5
        · have g5 : (dd == 5) = true := beq_iff_eq.2 h5
          clear h4 h5 h6
          go_wp2_with fail
          rw [HWW.out]
          refine (unwatch_any W _ p m _ op sp di q wt HKW.out.f.s).mono ?_
          rintro e w3 ⟨rfl, hs, hf⟩
          have HK3 := Lib.hid (HKW.out.reset (HKW.out.f.turn hs hf) (fr_two hf HKW.out.f.fp HKW.out.f.fm) rfl)
          clear hs hf
          go_wp2
          go_meet
          case rel => exact ⟨_, _, _, rfl, HK3.out⟩
        have g5 : (dd == 5) = false := beq_eq_false_iff_ne.2 h5
        have hload := cell_of_blk HBX.out
        have HD := Lib.hid (doesF_any w W F p m _ _ ⟨who, dd, nn, .slice wa ws.length wc, ws⟩ HKW.out.f HSO.out hbel.out h5 h6)
        clear h4 h5 h6
        go_wp2_with fail
        rw [HWW.out]
        refine HD.out.mono ?_
        rintro e w3 ⟨c, vq3, F3, ⟨op3, sp3, di3, q3, wt3⟩, rfl, hs, hF, hf, hwt, hdi, hc⟩
        have HBX3 : Hid (w3.heap[wo.heap.size]? = some (.cells #[.int .i64 who, .int .i64 dd, .int .i64 nn, .slice wa ws.length wc] 43 (0, 0))) :=
          (hf.block _ (Array.getElem?_eq_some_iff.1 HBX.out).1 HNB.out).trans HBX.out
        have e31 : w3.cell? ⟨wo.heap.size, 1, none⟩ = some (.int .i64 dd) := by rw [cell_of_blk HBX3.out]; rfl
        dsimp only at hwt hdi hc
        clear hload
        by_cases h3 : dd = 3
        · have g3 : (dd == 3) = true := beq_iff_eq.2 h3
          have hc3 := hc h3
          cases op
          · replace hwt : wt3 = wt := by simpa using hwt
            replace hdi : di3 = di := by simpa using hdi
            subst hwt
            subst hdi
            have gc : (c == 0) = false := beq_eq_false_iff_ne.2 (fun e => by have := hc3.1 e; cases this)
            have HK3 := Lib.hid (HKW.out.step hs hf (fun k hk => (hF k hk)) rfl)
            clear hs hF hf hc hc3 h3
            go_wp2
            go_meet
            case rel => exact ⟨_, _, _, rfl, HK3.out⟩
          · replace hwt : wt3 = [] := by simpa [h3] using hwt
            replace hdi : di3 = false := by simpa [h3] using hdi
            subst hwt
            subst hdi
            have gc : (c == 0) = true := beq_iff_eq.2 (hc3.2 rfl)
            have HK3 := Lib.hid (HKW.out.reset hs hf rfl)
            clear hs hF hf hc hc3 h3
            go_wp2
            go_meet
            case rel => exact ⟨_, _, _, rfl, HK3.out⟩
        · have g3 : (dd == 3) = false := beq_eq_false_iff_ne.2 h3
          replace hwt : wt3 = wt := by simpa [h3] using hwt
          replace hdi : di3 = di := by simpa [h3] using hdi
          subst hwt
          subst hdi
          have HK3 := Lib.hid (HKW.out.step hs hf (fun k hk => (hF k hk)) rfl)
          clear hs hF hf hc h3
          go_wp2
          go_meet
          case rel => exact ⟨_, _, _, rfl, HK3.out⟩
      case rest =>
        obtain ⟨⟨op3, sp3, di3, q3, wt3⟩, vq3, F3, rfl, HK3⟩ := hcut
        clear HKW HBX HWW hbel HK
        go_wp2_with fail
        refine (dirty_any _ _ p m _ _ HK3.out.f.s).mono ?_
        rintro e w' ⟨rfl, rfl⟩
        dsimp only
        cases di3
        all_goals
          go_wp2
          go_roundw
          case rel => exact ⟨k + 1, _, _, _, by go_num, by omega, rfl, HK3.out⟩
          case measure => simp [intOf]; omega
    · obtain rfl : k = l.length := by omega
      go_wp2_with fail
      refine (watched_any wo _ p m _ _ HK.out.f.s).mono ?_
      rintro e w5 ⟨v5, rfl, hr5, hb5⟩
      obtain ⟨L, hL, hsl, HSO, HME⟩ : ∃ L, sortS wt = L ∧ L.length = wt.length ∧ Hid (∀ j, (h : j + 1 < L.length) → Op.bytesLess (L[j]'(by omega)).toList (L[j + 1]).toList = true) ∧ Hid (∀ x ∈ L, inL x wt = true) :=
        ⟨_, rfl, sortS_len wt, fun j h => sortS_lt wt HK.out.f.s.map.nodup j h, fun x h => inL_iff.2 ((mem_sortS wt x).1 h)⟩
      rw [hL, ← hsl] at hr5
      clear hL
      have hlq : ((L.length : Int) == (wt.length : Int)) = true := by rw [hsl]; exact beq_iff_eq.2 rfl
      obtain ⟨a5, c5, rfl⟩ := owns_sliceN hr5
      have HR5 := Lib.hid (RdC.of_owns hr5)
      have hsw : L.length ≤ 1024 := by rw [hsl]; exact HK.out.f.s.sw
      clear hsl
      have HK5 := Lib.hid (HK.out.quiet ⟨hb5.os, hb5.tape, hb5.output, hb5.size, fun k hk _ => hb5.block k hk⟩)
      clear hr5 hb5
      go_wp2_with fail
      go_loop [151] (fun j => ∃ k2 : Nat, j = .int .i64 k2 ∧ k2 ≤ L.length) (fun j => L.length - (intOf j).toNat)
      case atStart => exact ⟨0, rfl, by omega⟩
      case round =>
        obtain ⟨k2, rfl, hk2⟩ := hrel
        by_cases hlt2 : k2 < L.length
        · obtain ⟨g5, o5, rfl, dx⟩ := texts_at HR5.out k2 hlt2
          have hin := HME.out _ (List.getElem_mem hlt2)
          have hb0j : (0 : Int) ≤ (k2 : Int) := by omega
          have hb1j : (k2 : Int) < (L.length : Int) := by omega
          by_cases hz : k2 = 0
          · have gz : decide ((0 : Int) < (k2 : Int)) = false := by rw [decide_eq_false_iff_not]; omega
            have gy : decide (0 < k2) = false := by rw [decide_eq_false_iff_not]; omega
            obtain ⟨x, hx⟩ : ∃ x, L[k2] = x := ⟨_, rfl⟩
            rw [hx] at hin dx
            have HIN := Lib.hid hin
            clear hx hin hz
            go_wp2_with fail
            refine (among26_any w5 _ wt x (RdC.of_owns HK5.out.row)).mono ?_
            rintro e w' ⟨rfl, rfl⟩
            rw [HIN.out]
            go_wp2
            go_round
            case rel => exact ⟨k2 + 1, by go_num, by omega⟩
            case measure => simp [intOf]; omega
          · obtain ⟨j, hj⟩ : ∃ j, k2 = j + 1 := ⟨k2 - 1, by omega⟩
            have gz : decide ((0 : Int) < (k2 : Int)) = true := by rw [decide_eq_true_eq]; omega
            have gy : decide (0 < k2) = true := by rw [decide_eq_true_eq]; omega
            have gx : 0 < k2 := by omega
            obtain ⟨g6, o6, he6, dy⟩ := texts_at HR5.out j (by omega)
            cases he6
            have hls := HSO.out j (by omega)
            obtain ⟨x, hx⟩ : ∃ x, L[k2] = x := ⟨_, rfl⟩
            obtain ⟨y, hy⟩ : ∃ y, L[j]'(by omega) = y := ⟨_, rfl⟩
            have hx2 : L[j + 1]'(by omega) = x := by rw [← hx]; simp only [hj]
            rw [hx] at hin dx
            rw [hx2, hy] at hls
            rw [hy] at dy
            have HIN := Lib.hid hin
            have hc0 : (0 : Int) ≤ (j : Int) := by omega
            have hc1 : (j : Int) < (L.length : Int) := by omega
            have hwr : wrap64 ((k2 : Int) - 1) = (j : Int) := by unfold wrap64; omega
            have hj2 : j = k2 - 1 := by omega
            rw [hj2] at dy
            clear hx hx2 hy hin hz hj hj2 hwr
            go_wp2_with fail
            refine (among26_any w5 _ wt x (RdC.of_owns HK5.out.row)).mono ?_
            rintro e w' ⟨rfl, rfl⟩
            rw [HIN.out]
            go_wp2
            go_round
            case rel => exact ⟨k2 + 1, by go_num, by omega⟩
            case measure => simp [intOf]; omega
        · go_wp2
          go_ret
          exact ⟨rfl, HK5.out.bel⟩
set_option maxRecDepth 100000 in
theorem sessionSees_lifted (os : Os) (started : os.Started) (H : Type) (enc : TypeId × Value → H) :
    ReturnsInHanded {} Try.checked os 5 .any (Rows.sessionSeesSpec.pre6 enc Try.prog Try.f5 Rows.sessionSeesRow.domain false) (Rows.sessionSeesSpec.post enc Try.prog Try.f5 false true false false) := by
  refine returnsInHanded_of_change_sized (C := Try.checked) own started (by kernel_rfl) Try.func5
    (ChangeSpec.witness6 (enc := enc) (C := Try.checked) false ⟨#[], #[.slice none 0 0], []⟩ 8 (by kernel_rfl) (by kernel_rfl) (by kernel_rfl) (by kernel_rfl)) ?_
  intro W base args ds gs before hval0 hW hcnd hsz0 _
  have hval : ∀ (j : Nat) t v, Try.f5.params[j]? = some t → args[j]? = some v → Value.okWide Try.prog W .any base t v := hval0
  have hW' := hW
  obtain ⟨p, q, hA0, hV, rfl, hfz, hnd⟩ := hW
  have hA : DataW.TrodAll enc Try.prog W 0 (fun _ => true) true Try.f5.params.toList args.toList ds p := hA0
  rw [Try.params5] at hA hval
  obtain ⟨v0, vs0, d0, ds0, p0, q0, hargs, rfl, rfl, h0, r0⟩ := trodAll_cons hA
  obtain ⟨rfl, rfl, rfl⟩ := trodAll_nil r0
  obtain rfl : args = #[v0] := by cases args; simp_all
  obtain ⟨rfl, rfl⟩ := trodVars_none hV
  have hsz : (DataW.weightsEach Try.prog [36] [d0]).all (fun x => decide (x ≤ reachBytes)) = true := by
    have h := hsz0
    simp only [List.append_nil] at h
    have e : (Try.f5.params.toList ++ DataSpec.varTypes Try.checked.prog Rows.sessionSeesSpec.plain) = [36] := by kernel_rfl
    rw [e] at h; exact h
  clear hsz0
  obtain ⟨hw0, hsz0⟩ := weights_cons hsz
  obtain ⟨fu0, hf0⟩ := trod_one h0 (okWide_slice Try.underlying36 (hval 0 36 v0 rfl rfl))
  obtain ⟨l0, hr0, hby0, hok0⟩ := open_script26 hf0 hw0
  clear hA0 hval0
  refine (sessionSees_walk W v0 l0 hr0 hby0 hok0).mono fun e W' ⟨he, bel⟩ => ?_
  subst he
  exact ⟨_, rfl, law_post laidOut Try.underlying4 (by kernel_rfl) rfl (by kernel_rfl) hW' rfl bel⟩

theorem sessionSees_holds : Rows.SessionSeesSaid :=
  OpenClaim.holds_of_wide 5 Try.f5 rfl rfl rfl rfl rfl rfl rfl ⟨rfl, rfl, rfl, rfl, rfl⟩ rfl rfl rfl rfl rfl (by kernel_rfl) Try.func5 (by kernel_rfl)
    (of_decide_eq_true (by kernel_rfl)) (by unfold Func.isWrapper; rw [if_neg (of_decide_eq_false (by kernel_rfl))]; exact ⟨rfl, rfl⟩)
    (fun os started H enc _ => sessionSees_lifted os started H enc)
end Go.Proofs.Ytpcjogmikgfgdaa

/- SessionKeeps: what End tells are the words that were queued since the Begin, in their order. No condition. -/
import Derived.Test.YtpcjogmikgfgdaaKeeps
import Derived.Deep.AppendLies
import Derived.Outline
namespace Go.Proofs.Ytpcjogmikgfgdaa
open Go.ChangeShapes Go.WideShapes Go.ChangeAt Go.RowKit
set_option maxRecDepth 100000 in
set_option maxHeartbeats 8000000 in
theorem sessionKeeps_walk (w : World) (v0 : Value) (l : List St) (hr : RdC w 4 v0 l.length (l.flatMap stCells)) (hby : l.length * 48 ≤ 140737488351232) (hok : ∀ o ∈ l, StOk w o) :
    Calls Try.prog 4 #[v0] w fun e w' => e = .returned (.bool true) ∧ Below w.heap.size w w' := by
  have HR := Lib.hid hr
  have HOK := Lib.hid hok
  obtain ⟨-, sa, sc, rfl, -⟩ := hr
  obtain ⟨i0, hi, hz0, hz1, hz2⟩ := info_parts infoL
  have HI := Lib.hid hi
  have HZ0 := Lib.hid hz0
  have HZ1 := Lib.hid hz1
  have HZ2 := Lib.hid hz2
  clear hok hi hz0 hz1 hz2
  go_enter Try.func4, Try.ntmps4
  go_wp2_with fail
  refine (wakes26_any _).mono ?_
  rintro e w1 ⟨rfl, hb1⟩
  have HB1 := Lib.hid hb1
  clear hb1
  go_wp2_with fail
  refine (newSess_any _).mono ?_
  rintro e w2 ⟨p, m, rfl, hs, hb⟩
  have HK0 : Hid (Kp w p m (.slice none 0 0) (.slice none 0 0) ⟨false, false, false, [], []⟩ w2) :=
    ⟨⟨hs.blk, ⟨[], World.ownsRow_nil _ _ _ _, Txts.nil _⟩, hs.map, Nat.le_trans HB1.out.size hs.bp, Nat.le_trans HB1.out.size hs.bm, hs.sq, hs.sw⟩, ⟨[], World.ownsRow_nil _ _ _ _, Kx.nil w⟩, fun g hg => by (cases hg), fun _ => ⟨rfl, rfl⟩, HB1.out.trans (hb.mono HB1.out.size)⟩
  clear hs hb HB1
  go_wp2_with fail
  go_loopw [4, 5, 16] (fun vk op i wr => ∃ (k : Nat) (S : SS) (vq : Value), i = .int .i64 k ∧ k ≤ l.length ∧ op = .bool S.op ∧ Hid (Kp w p m vq vk S wr)) (fun _ _ i _ => l.length - (intOf i).toNat)
  case atStart => exact ⟨0, _, _, rfl, by omega, rfl, HK0.out⟩
  case round =>
    obtain ⟨k, ⟨op, sp, di, q, wt⟩, vq, rfl, hk, rfl, HK⟩ := hrel
    obtain ⟨wo, rfl⟩ : ∃ x, x = wr := ⟨_, rfl⟩
    clear HK0
    obtain ⟨kks, hrk, hkx⟩ := HK.out.kept
    obtain ⟨ka, kc, rfl⟩ := owns_sliceN hrk
    clear hrk hkx
    by_cases hlt : k < l.length
    · obtain ⟨g, off, rfl, d0, d1, d2, d3⟩ := st_at (HR.out.below HK.out.bel) k hlt
      have hso := HOK.out _ (List.getElem_mem hlt)
      obtain ⟨o, ho⟩ : ∃ o, l[k] = o := ⟨_, rfl⟩
      rw [ho] at d0 d1 d2 d3 hso
      clear ho
      obtain ⟨who, dd, nn, wv, ws⟩ := o
      have HSO := Lib.hid hso
      obtain ⟨-, wa, wc, hwv, -⟩ := hso.rd
      obtain rfl : wv = .slice wa ws.length wc := hwv
      have hb0i : (0 : Int) ≤ (k : Int) := by omega
      have hb1i : (k : Int) < (l.length : Int) := by omega
      clear hso
      dsimp only at d0 d1 d2 d3
      go_upto_block 2 with (fail)
      obtain ⟨W, hW⟩ : ∃ W, wo.alloc (.cells #[.int .i64 who, .int .i64 dd, .int .i64 nn, .slice wa ws.length wc] 43) = W := ⟨_, rfl⟩
      have HBX : Hid (W.heap[wo.heap.size]? = some (.cells #[.int .i64 who, .int .i64 dd, .int .i64 nn, .slice wa ws.length wc] 43 (0, 0))) := by rw [← hW]; exact alloc_at _ _
      have HKW : Hid (Kp w p m vq (.slice ka q.length kc) ⟨op, sp, di, q, wt⟩ W) := by rw [← hW]; exact HK.out.quiet (Fr.alloc _ _ _)
      have HWW := Lib.hid hW
      have hbel : Hid (Below w.heap.size w W) := HKW.out.bel
      clear d0 d1 d2 d3 hW
      go_cut [4, 5, 8, 9, 10] from 22 to 113 (fun vk' op' _ _ _ wc => ∃ (S : SS) (vq' : Value), op' = .bool S.op ∧ Hid (Kp w p m vq' vk' S wc))
      case first =>
        by_cases h0 : dd = 0
        · have g0 : (dd == 0) = true := beq_iff_eq.2 h0
          clear h0
          go_wp2_with fail
          rw [HWW.out]
          refine (begin_any W _ p m _ _ HKW.out.s).mono ?_
          rintro e w3 ⟨rfl, hs, hf⟩
          have HK3 := Lib.hid (HKW.out.turn (S' := ⟨true, sp, di, q, wt⟩) hs (hf.mono (fun _ h _ => .inl h)) rfl (fun e => by cases e))
          clear hs hf
          dsimp only
          cases op
          all_goals
            go_wp2_with fail
            refine (with_any _ _ _).mono ?_
            rintro e w' ⟨rfl, rfl⟩
            go_wp2
            go_meet
            case rel => exact ⟨_, _, rfl, HK3.out⟩
        have g0 : (dd == 0) = false := beq_eq_false_iff_ne.2 h0
        by_cases h1 : dd = 1
        · have g1 : (dd == 1) = true := beq_iff_eq.2 h1
          clear h0 h1
          have e3 : W.cell? ⟨wo.heap.size, 3, none⟩ = some (.slice wa ws.length wc) := by rw [cell_of_blk HBX.out]; rfl
          cases op
          · go_wp2_with fail
            rw [HWW.out]
            refine (queue_shut W _ p m _ sp di q wt _ HKW.out.s).mono ?_
            rintro e w' ⟨rfl, rfl⟩
            go_wp2
            go_meet
            case rel => exact ⟨_, _, rfl, HKW.out⟩
          by_cases hq : q.length < 1024
          · have g2 : decide (1024 ≤ (q.length : Int)) = false := by rw [decide_eq_false_iff_not]; omega
            have g3 : decide ((q.length : Int) < 1024) = true := by rw [decide_eq_true_eq]; omega
            go_wp2_with fail
            rw [HWW.out]
            refine (queue_ok W _ p m _ sp di q wt _ ws HKW.out.s hq (HSO.out.rd.below hbel.out) (by have := HSO.out.by_; dsimp only at this; omega) hbel.out.size).mono ?_
            rintro e w3 ⟨vq', rfl, hs, hat, hf⟩
            have HQ := Lib.hid (HKW.out.queued (ws := ws) rfl hs hat hf)
            have HBX3 : Hid (w3.heap[wo.heap.size]? = some (.cells #[.int .i64 who, .int .i64 dd, .int .i64 nn, .slice wa ws.length wc] 43 (0, 0))) := by
              refine (hf.block _ (Array.getElem?_eq_some_iff.1 HBX.out).1 (fun e => ?_)).trans HBX.out
              rcases e with e | e
              · have h4 := HKW.out.s.blk
                rw [← e, HBX.out] at h4
                simp only [Option.some.injEq, Obj.cells.injEq] at h4
                exact absurd h4.2.1 (by decide)
              · obtain ⟨qs, h4, _⟩ := HKW.out.s.row
                exact row_ne h4 HBX.out (by decide) e
            obtain ⟨ks, hrow, hkx⟩ := HQ.out.kept
            have HROW := Lib.hid hrow
            have HKX := Lib.hid hkx
            have e33 : w3.cell? ⟨wo.heap.size, 3, none⟩ = some (.slice wa ws.length wc) := by rw [cell_of_blk HBX3.out]; rfl
            clear hs hat hf hrow hkx e3
            go_wp2_with (at_builtin; refine wpList_append_lies _ rfl (.tmp 91) (.tmp 94) 40 rfl w.heap.size 41 i0 (.slice none 0 0) 1 24 Try.underlying40 HI.out HZ0.out HZ1.out HZ2.out rfl (by decide) _ q.length ks rfl (HROW.out.alloc _) ⟨w3.heap.size, 0, none⟩ 1 1 [.slice wa ws.length wc] rfl rfl (cell_one_new _ _ _) (by simp [Value.oneCell']) (by decide) (by unfold maxLen; omega) (by omega) (by have := HQ.out.bel.size; simp; omega) (w3.heap.size + 1) (by simp) ?_; intro g2 cap2 w4 hown hgrow hat hlt; have HK4 := Lib.hid (HQ.out.fin HKX.out HROW.out HSO.out.rd (Fr.alloc (fun _ => False) w3 _) hown hgrow (fun g hg => by cases hg; exact hat.imp id (fun h => by rw [h]; simp))); clear hown hgrow hat hlt)
            go_meet
            case rel => exact ⟨_, _, rfl, HK4.out⟩
          · have g2 : decide (1024 ≤ (q.length : Int)) = true := by rw [decide_eq_true_eq]; omega
            have g3 : decide ((q.length : Int) < 1024) = false := by rw [decide_eq_false_iff_not]; omega
            go_wp2_with fail
            rw [HWW.out]
            refine (queue_full W _ p m _ sp di q wt _ HKW.out.s (by omega)).mono ?_
            rintro e w' ⟨rfl, rfl⟩
            go_wp2
            go_meet
            case rel => exact ⟨_, _, rfl, HKW.out⟩
        have g1 : (dd == 1) = false := beq_eq_false_iff_ne.2 h1
        by_cases h3 : dd = 3
        · have g3 : (dd == 3) = true := beq_iff_eq.2 h3
          clear h0 h1 h3
          cases op
          · obtain ⟨hq0, _⟩ := HKW.out.shut rfl
            have hq0 : q = [] := hq0
            have HLS := Lib.hid HKW.out.ls
            subst hq0
            go_wp2_with fail
            rw [HWW.out]
            refine (end_shut W _ p m _ sp di [] wt HKW.out.s).mono ?_
            rintro e w' ⟨rfl, rfl⟩
            go_wp2_with fail
            refine (with_any _ _ _).mono ?_
            rintro e w' ⟨rfl, rfl⟩
            go_wp2_with fail
            refine (sameLs_any W _ _ [] [] ⟨[], RdC.nil _ _, fun i l h => by simp at h⟩ HLS.out).mono ?_
            rintro e w3 ⟨rfl, n3, rfl⟩
            have hd : decide (([] : List (List ByteArray)) = []) = true := rfl
            rw [hd]
            have HK3 : Hid (Kp w p m vq (.slice none 0 0) ⟨false, sp, di, [], wt⟩ (W.drewN n3)) := by
              have h := HKW.out.quiet (Fr.drewN _ W n3)
              exact ⟨h.s, ⟨[], World.ownsRow_nil _ _ _ _, Kx.nil w⟩, fun g _ e => (by cases e), h.shut, h.bel⟩
            clear hd
            go_wp2
            go_meet
            case rel => exact ⟨_, _, rfl, HK3.out⟩
          · go_wp2_with fail
            rw [HWW.out]
            refine (end_open W _ p m _ sp di q wt HKW.out.s).mono ?_
            rintro e w3 ⟨rfl, hs, ⟨qs, r1, r2⟩, hf⟩
            have HK3 := Lib.hid (HKW.out.ended (B := 0) hs hf)
            have HL1 := Lib.hid (HKW.out.ls_end hf)
            have HL2 := Lib.hid (Ls.of_owns r1 r2)
            clear hs r1 r2 hf
            go_wp2_with fail
            refine (with_any _ _ _).mono ?_
            rintro e w' ⟨rfl, rfl⟩
            go_wp2_with fail
            refine (sameLs_any w3 _ _ q q HL2.out HL1.out).mono ?_
            rintro e w4 ⟨rfl, n4, rfl⟩
            have hd : decide (q = q) = true := decide_eq_true rfl
            rw [hd]
            have HK4 := Lib.hid (HK3.out.quiet (Fr.drewN _ w3 n4))
            clear hd
            go_wp2
            go_meet
            case rel => exact ⟨_, _, rfl, HK4.out⟩
        have g3 : (dd == 3) = false := beq_eq_false_iff_ne.2 h3
        have e1 : W.cell? ⟨wo.heap.size, 1, none⟩ = some (.int .i64 dd) := by rw [cell_of_blk HBX.out]; rfl
        have e0 : W.cell? ⟨wo.heap.size, 0, none⟩ = some (.int .i64 who) := by rw [cell_of_blk HBX.out]; rfl
        have e2 : W.cell? ⟨wo.heap.size, 2, none⟩ = some (.int .i64 nn) := by rw [cell_of_blk HBX.out]; rfl
        have e3 : W.cell? ⟨wo.heap.size, 3, none⟩ = some (.slice wa ws.length wc) := by rw [cell_of_blk HBX.out]; rfl
        have HDO := Lib.hid (doesX_any w W p m vq ⟨op, sp, di, q, wt⟩ ⟨who, dd, nn, .slice wa ws.length wc, ws⟩ HKW.out.s HSO.out hbel.out h0 h1 h3)
        go_wp2_with fail
        rw [HWW.out]
        refine HDO.out.mono ?_
        rintro e w3 ⟨rfl, hs, hf⟩
        have hdk := doesS_keep ⟨who, dd, nn, .slice wa ws.length wc, ws⟩ ⟨op, sp, di, q, wt⟩
        have HK3 : Hid (Kp w p m vq (.slice ka q.length kc) (doesS ⟨who, dd, nn, .slice wa ws.length wc, ws⟩ ⟨op, sp, di, q, wt⟩) w3) :=
          HKW.out.turn hs hf hdk.1 (fun e => by have h := HKW.out.shut (hdk.2.1 ▸ e); exact ⟨hdk.1.trans h.1, hdk.2.2 (hdk.2.1 ▸ e) h.2⟩)
        have HOP : Hid ((doesS ⟨who, dd, nn, .slice wa ws.length wc, ws⟩ ⟨op, sp, di, q, wt⟩).op = op) := hdk.2.1
        have hbx3 := box_stays HKW.out HBX.out hf
        have f1 : w3.cell? ⟨wo.heap.size, 1, none⟩ = some (.int .i64 dd) := by rw [cell_of_blk hbx3]; rfl
        have f3 : w3.cell? ⟨wo.heap.size, 3, none⟩ = some (.slice wa ws.length wc) := by rw [cell_of_blk hbx3]; rfl
        clear hs hf hdk hbx3 e0 e1 e2 e3 HDO h0 h1 h3
        by_cases h4 : dd = 4
        · have g4 : (dd == 4) = true := beq_iff_eq.2 h4
          have hsame := doesS_same ⟨who, dd, nn, .slice wa ws.length wc, ws⟩ ⟨op, sp, di, q, wt⟩ (by show dd ≠ 2; omega) (by show dd ≠ 5; omega) (by show dd ≠ 6; omega)
          rw [hsame] at HK3
          clear h4 hsame HOP
          by_cases hw0 : 0 < ws.length
          · have q1 : decide (0 < ws.length) = true := decide_eq_true hw0
            have q2 : decide ((0 : Int) < (ws.length : Int)) = true := by rw [decide_eq_true_eq]; omega
            have q3 : (0 : Int) < (ws.length : Int) := by omega
            cases op
            · go_wp2
              go_meet
              case rel => exact ⟨_, _, rfl, HK3.out⟩
            · obtain ⟨g5, o5, rfl, hx⟩ := texts_at (HSO.out.rd.below HK3.out.bel) 0 hw0
              rw [Nat.add_zero] at hx
              obtain ⟨x, hxe⟩ : ∃ x, ws[0] = x := ⟨_, rfl⟩
              rw [hxe] at hx
              clear hxe
              go_wp2_with fail
              refine (watch_shut w3 _ p m _ _ _ _ _ x HK3.out.s).mono ?_
              rintro e w' ⟨rfl, rfl⟩
              go_wp2
              go_meet
              case rel => exact ⟨_, _, rfl, HK3.out⟩
          · have hw1 : ws.length = 0 := by omega
            have q1 : decide (0 < ws.length) = false := decide_eq_false hw0
            have q2 : decide ((0 : Int) < (ws.length : Int)) = false := by rw [decide_eq_false_iff_not]; omega
            clear hw1
            go_wp2
            go_meet
            case rel => exact ⟨_, _, rfl, HK3.out⟩
        · have g4 : (dd == 4) = false := beq_eq_false_iff_ne.2 h4
          clear h4
          go_wp2
          go_meet
          case rel => exact ⟨_, _, (congrArg Value.bool HOP.out.symm), HK3.out⟩
      case rest =>
      obtain ⟨⟨op2, sp2, di2, q2, wt2⟩, vq2, rfl, HK2⟩ := hcut
      clear HKW HBX HWW hbel HK
      go_wp2_with fail
      refine (open_any _ _ p m _ _ HK2.out.s).mono ?_
      rintro e w' ⟨rfl, rfl⟩
      dsimp only
      cases op2
      · obtain ⟨hq0, hs0⟩ := HK2.out.shut rfl
        have hq0 : q2 = [] := hq0
        have hs0 : sp2 = false := hs0
        subst hq0
        subst hs0
        go_wp2_with fail
        refine (spoilt_any _ _ p m _ _ HK2.out.s).mono ?_
        rintro e w' ⟨rfl, rfl⟩
        dsimp only
        go_wp2_with fail
        refine (queued_any _ _ p m _ _ _ _ _ _ HK2.out.s).mono ?_
        rintro e w5 ⟨v5, qs5, rfl, r1, -, hb5⟩
        obtain ⟨a5, c5, rfl⟩ := owns_sliceN r1
        have HK5 := Lib.hid (HK2.out.quiet ⟨hb5.os, hb5.tape, hb5.output, hb5.size, fun k hk _ => hb5.block k hk⟩)
        clear r1 hb5
        go_wp2
        go_roundw
        case rel => exact ⟨k + 1, _, _, by go_num, by omega, rfl, HK5.out⟩
        case measure => simp [intOf]; omega
      · go_wp2
        go_roundw
        case rel => exact ⟨k + 1, _, _, by go_num, by omega, rfl, HK2.out⟩
        case measure => simp [intOf]; omega
    · obtain rfl : k = l.length := by omega
      go_wp2_with fail
      refine (queued_any _ _ p m _ _ _ _ _ _ HK.out.s).mono ?_
      rintro e w5 ⟨v5, qs5, rfl, r1, r2, hb5⟩
      have HL1 := Lib.hid (Ls.of_owns r1 r2)
      have HK5 := Lib.hid (HK.out.quiet ⟨hb5.os, hb5.tape, hb5.output, hb5.size, fun k hk _ => hb5.block k hk⟩)
      clear r1 r2 hb5
      go_wp2_with fail
      refine (sameLs_any w5 _ _ q q HL1.out HK5.out.ls).mono ?_
      rintro e w6 ⟨rfl, n6, rfl⟩
      have hd : decide (q = q) = true := decide_eq_true rfl
      rw [hd]
      have HK6 := Lib.hid (HK5.out.quiet (Fr.drewN _ w5 n6))
      clear hd
      go_wp2
      go_ret
      exact ⟨rfl, HK6.out.bel⟩
set_option maxRecDepth 100000 in
theorem sessionKeeps_lifted (os : Os) (started : os.Started) (H : Type) (enc : TypeId × Value → H) :
    ReturnsInHanded {} Try.checked os 4 .any (Rows.sessionKeepsSpec.pre6 enc Try.prog Try.f4 Rows.sessionKeepsRow.domain false) (Rows.sessionKeepsSpec.post enc Try.prog Try.f4 false true false false) := by
  refine returnsInHanded_of_change_sized (C := Try.checked) own started (by kernel_rfl) Try.func4
    (ChangeSpec.witness6 (enc := enc) (C := Try.checked) false ⟨#[], #[.slice none 0 0], []⟩ 8 (by kernel_rfl) (by kernel_rfl) (by kernel_rfl) (by kernel_rfl)) ?_
  intro W base args ds gs before hval0 hW hcnd hsz0 _
  have hval : ∀ (j : Nat) t v, Try.f4.params[j]? = some t → args[j]? = some v → Value.okWide Try.prog W .any base t v := hval0
  have hW' := hW
  obtain ⟨p, q, hA0, hV, rfl, hfz, hnd⟩ := hW
  have hA : DataW.TrodAll enc Try.prog W 0 (fun _ => true) true Try.f4.params.toList args.toList ds p := hA0
  rw [Try.params4] at hA hval
  obtain ⟨v0, vs0, d0, ds0, p0, q0, hargs, rfl, rfl, h0, r0⟩ := trodAll_cons hA
  obtain ⟨rfl, rfl, rfl⟩ := trodAll_nil r0
  obtain rfl : args = #[v0] := by cases args; simp_all
  obtain ⟨rfl, rfl⟩ := trodVars_none hV
  have hsz : (DataW.weightsEach Try.prog [36] [d0]).all (fun x => decide (x ≤ reachBytes)) = true := by
    have h := hsz0
    simp only [List.append_nil] at h
    have e : (Try.f4.params.toList ++ DataSpec.varTypes Try.checked.prog Rows.sessionKeepsSpec.plain) = [36] := by kernel_rfl
    rw [e] at h; exact h
  clear hsz0
  obtain ⟨hw0, hsz0⟩ := weights_cons hsz
  obtain ⟨fu0, hf0⟩ := trod_one h0 (okWide_slice Try.underlying36 (hval 0 36 v0 rfl rfl))
  obtain ⟨l0, hr0, hby0, hok0⟩ := open_script26 hf0 hw0
  clear hA0 hval0
  refine (sessionKeeps_walk W v0 l0 hr0 hby0 hok0).mono fun e W' ⟨he, bel⟩ => ?_
  subst he
  exact ⟨_, rfl, law_post laidOut Try.underlying4 (by kernel_rfl) rfl (by kernel_rfl) hW' rfl bel⟩

theorem sessionKeeps_holds : Rows.SessionKeepsSaid :=
  OpenClaim.holds_of_wide 4 Try.f4 rfl rfl rfl rfl rfl rfl rfl ⟨rfl, rfl, rfl, rfl, rfl⟩ rfl rfl rfl rfl rfl (by kernel_rfl) Try.func4 (by kernel_rfl)
    (of_decide_eq_true (by kernel_rfl)) (by unfold Func.isWrapper; rw [if_neg (of_decide_eq_false (by kernel_rfl))]; exact ⟨rfl, rfl⟩)
    (fun os started H enc _ => sessionKeeps_lifted os started H enc)
end Go.Proofs.Ytpcjogmikgfgdaa

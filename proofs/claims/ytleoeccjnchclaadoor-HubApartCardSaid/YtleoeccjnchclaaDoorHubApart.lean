/- The walk of HubApart: two hubs side by side, one asked all, one asked what a session asks. No condition but sizes. -/
import Derived.Test.YtleoeccjnchclaaDoorHubDuo
namespace Go.Proofs.YtleoeccjnchclaaDoor
open Go.RowKit
/-- the law's name that is nobody's -/
def noSuch : ByteArray := ⟨#[110, 111, 32, 115, 117, 99, 104, 32, 99, 104, 97, 110, 110, 101, 108, 32, 97, 116, 32, 97, 108, 108]⟩
/-- two hubs side by side that say the same of a session -/
def Two (w0 w : World) (N h g : Nat) (s : Int) : Prop := ∃ (F G : Nat → Prop) (fc fp gc gp : Int → List ByteArray), Duo w0 w N N h g F G fc fp gc gp ∧ fc s = gc s ∧ fp s = gp s
theorem Two.below {w0 w : World} {N h g : Nat} {s : Int} (H : Two w0 w N h g s) : Below w0.heap.size w0 w := by
  obtain ⟨F, G, fc, fp, gc, gp, h1, _⟩ := H
  exact h1.below
set_option maxRecDepth 100000 in
set_option maxHeartbeats 4000000 in
theorem hubApart_walk (w : World) (v : Value) (l : List SoB) (hr : RdC w 6 v l.length (l.flatMap sob)) (hby : l.length * 64 ≤ reachBytes) (s : Int) (hs0 : -9223372036854775808 ≤ s) (hs1 : s ≤ 9223372036854775807) :
    Calls Tryd.prog 3 #[v, .int .i64 s] w fun e w' => e = .returned (.bool true) ∧ Below w.heap.size w w' := by
  have hs : (Lit.int .i64 s).wf = true := by simp only [Lit.wf, Bool.and_eq_true, decide_eq_true_eq]; exact ⟨hs0, hs1⟩
  have hl : l.length ≤ 2199023255488 := by unfold reachBytes at hby; omega
  have HW := Lib.hid (wakes25_any w)
  have HR := Lib.hid hr
  obtain ⟨-, va, vc, rfl, -⟩ := hr
  go_enter Tryd.func3, Tryd.ntmps3
  go_wp2_with fail
  refine HW.out.mono ?_
  rintro e w1 ⟨rfl, hf1⟩
  have HF1 := Lib.hid hf1
  clear hf1
  go_wp2_with fail
  refine (hubNew_any w1).mono ?_
  rintro e w2 ⟨h, X, rfl, H2, hb2⟩
  have HH2 := Lib.hid H2
  have HB2 := Lib.hid hb2
  clear H2 hb2
  go_wp2_with fail
  refine (hubNew_any w2).mono ?_
  rintro e w3 ⟨g, Y, rfl, H3, hb3⟩
  have HT : Hid (Two w w3 0 h g s) := by
    have z1 := HF1.out.size
    have z2 := HB2.out.size
    refine ⟨_, _, _, _, _, _, ⟨hub_new HH2.out z1 (Fr.of_below hb3), hub_new H3 (Nat.le_trans z1 z2) (Fr.refl _ _), fun i h1 h2 => by have := h1.2; have := h2.1; omega, sm_none, sm_none, ?_⟩, rfl, rfl⟩
    exact ((HF1.out.mono fun _ h _ => h.elim).wide (Fr.of_below HB2.out) (fun i hi => .inr (by omega))).wide (Fr.of_below hb3) (fun i hi => .inr (by omega))
  clear H3 hb3 HH2 HB2 HF1
  go_wp2_with fail
  go_loopw [21] (fun i wr => ∃ k : Nat, i = .int .i64 k ∧ k ≤ l.length ∧ Hid (Two w wr k h g s)) (fun i _ => l.length - (intOf i).toNat)
  case atStart => exact ⟨0, rfl, by omega, HT⟩
  case round =>
    obtain ⟨k, rfl, hk, HK⟩ := hrel
    obtain ⟨wo, rfl⟩ : ∃ wo, wo = wr := ⟨_, rfl⟩
    by_cases hlt : k < l.length
    · obtain ⟨gb, off, rfl, x0, x1, x2, x3, x4, x5⟩ := so_at (HR.out.below HK.out.below) k hlt
      obtain ⟨⟨⟨who, do_, ses, key, text, big⟩, p1, p2, p3, p4⟩, ho⟩ : ∃ o, l[k] = o := ⟨_, rfl⟩
      rw [ho] at x0 x1 x2 x3 x4 x5
      dsimp only at p1 p2 x0 x1 x2 x3 x4 x5
      obtain ⟨F, G, fc, fp, gc, gp, D, ec, ep⟩ := HK.out
      obtain ⟨w5, hw5⟩ : ∃ x, wo.alloc (.cells #[.int .i64 who, .int .i64 do_, .int .i64 ses, .string key, .string text, .int .i64 big] 27) = x := ⟨_, rfl⟩
      have hq5 : Fr (fun _ => False) wo w5 := by rw [← hw5]; exact Fr.alloc _ _ _
      have D5 := D.quiet hq5
      have hblk : w5.heap[wo.heap.size]? = some (.cells #[.int .i64 who, .int .i64 do_, .int .i64 ses, .string key, .string text, .int .i64 big] 27 (0, 0)) := by rw [← hw5]; exact alloc_at wo _
      have hmx : ∀ n : Nat, n ≤ 1024 → n ≤ maxLen := fun n hn => by unfold maxLen; omega
      have HD := Lib.hid (does25_any D5.a D5.size (by omega) who do_ ses key text big p1 p2 (fun x hx => hmx _ (D5.sa.1 ses x hx)))
      have HDU := Lib.hid D5
      have HEC := Lib.hid ec
      have HEP := Lib.hid ep
      have HBLK := Lib.hid hblk
      have HNF : Hid (¬ F wo.heap.size) := fun hF => by have := (D.a.lt _ hF).2; omega
      have HNG : Hid (¬ G wo.heap.size) := fun hF => by have := (D.b.lt _ hF).2; omega
      have HP1 := Lib.hid p1
      have HP2 := Lib.hid p2
      have HMX := Lib.hid hmx
      have b0 : (0 : Int) ≤ (k : Int) := by omega
      have b1 : (k : Int) < (l.length : Int) := by omega
      unfold DoesH at HD
      have HW5 := Lib.hid hw5
      clear ho p3 p4 D D5 ec ep hq5 hblk p1 p2 hmx hw5
      go_wp2_with fail
      rw [HW5.out]
      refine HD.out.mono ?_
      rintro e w6 ⟨⟨u, rfl⟩, hf6, hT6⟩
      have D6 := HDU.out.step hf6 hT6 (does_small _ _ _ _ HDU.out.sa)
      have hb6 := (hf6.block wo.heap.size (Array.getElem?_eq_some_iff.1 HBLK.out).1 HNF.out).trans HBLK.out
      have y0 : w6.cell? ⟨wo.heap.size, 0, none⟩ = some (.int .i64 who) := cell_of_blk hb6 0
      have y1 : w6.cell? ⟨wo.heap.size, 1, none⟩ = some (.int .i64 do_) := cell_of_blk hb6 1
      have y2 : w6.cell? ⟨wo.heap.size, 2, none⟩ = some (.int .i64 ses) := cell_of_blk hb6 2
      have y3 : w6.cell? ⟨wo.heap.size, 3, none⟩ = some (.string key) := cell_of_blk hb6 3
      have y4 : w6.cell? ⟨wo.heap.size, 4, none⟩ = some (.string text) := cell_of_blk hb6 4
      have y5 : w6.cell? ⟨wo.heap.size, 5, none⟩ = some (.int .i64 big) := cell_of_blk hb6 5
      by_cases hse : ses = s
      · subst hse
        have HD2 := Lib.hid (does25_any D6.b D6.size (by omega) who do_ ses key text big HP1.out HP2.out (fun x hx => HMX.out _ (D6.sb.1 ses x hx)))
        have HDU6 := Lib.hid D6
        unfold DoesH at HD2
        clear D6 hf6 hT6 hb6
        go_wp2_with fail
        refine HD2.out.mono ?_
        rintro e w7 ⟨⟨u2, rfl⟩, hf7, hT7⟩
        have HT7 : Hid (Two w w7 (k + 1) h g ses) := by
          have D7 := (HDU6.out.swap.step hf7 hT7 (does_small _ _ _ _ HDU6.out.sb)).swap
          obtain ⟨e1, e2⟩ := does_same do_ ses key (f := (fc, fp)) (g := (gc, gp)) HEC.out HEP.out
          exact ⟨_, _, _, _, _, _, D7, e1, e2⟩
        clear hf7 hT7
        go_wp2_with fail
        go_roundw
        case rel => exact ⟨k + 1, by go_num, by omega, HT7⟩
        case measure => simp [intOf]; omega
      · have HT6 : Hid (Two w w6 (k + 1) h g s) := by
          obtain ⟨e1, e2⟩ := does_other do_ key (fc, fp) (fun e => hse e.symm)
          exact ⟨_, _, _, _, _, _, D6.upN (Nat.le_refl _) (Nat.le_succ _), e1.trans HEC.out, e2.trans HEP.out⟩
        have hne : (ses == s) = false := by simpa using hse
        clear D6 hf6 hT6 hb6
        go_wp2_with fail
        go_roundw
        case rel => exact ⟨k + 1, by go_num, by omega, HT6⟩
        case measure => simp [intOf]; omega
    · obtain rfl : k = l.length := by omega
      obtain ⟨F, G, fc, fp, gc, gp, D, ec, ep⟩ := HK.out
      obtain ⟨C, hC⟩ : ∃ C, sortS (fc s) = C := ⟨_, rfl⟩
      obtain ⟨P, hP⟩ : ∃ P, sortS (fp s) = P := ⟨_, rfl⟩
      have hCl : C.length = (fc s).length := by rw [← hC]; exact sortS_len _
      have hPl : P.length = (fp s).length := by rw [← hP]; exact sortS_len _
      have hfew := D.a.few s
      have hcb : C.length ≤ 1024 := by omega
      have hpb : P.length ≤ 1024 := by omega
      have HC := Lib.hid hC
      have HP := Lib.hid hP
      have HGC : Hid (sortS (gc s) = C) := by rw [← ec]; exact hC
      have HGP : Hid (sortS (gp s) = P) := by rw [← ep]; exact hP
      have HCL := Lib.hid hCl
      have HPL := Lib.hid hPl
      have HD := Lib.hid D
      have HSF : Hid (∀ x ∈ fc s, x.size ≤ 1024) := D.sa.1 s
      have HLF : Hid (∀ i, F i → i < wo.heap.size) := fun i hi => (D.a.lt i hi).2
      clear D ec ep hC hP hCl hPl hfew
      go_wp2_with fail
      refine (chan_any HD.out.a s hs HC.out).mono ?_
      rintro e wa ⟨ca, cc, rfl, hca, hcl, hfa⟩
      have HDa := Lib.hid (HD.out.quiet hfa)
      have HCA := Lib.hid hca
      have HCLO := Lib.hid hcl
      have HFA := Lib.hid hfa
      clear hca hcl hfa HD
      go_wp2_with fail
      refine (patt_any HDa.out.a s hs HP.out).mono ?_
      rintro e wb ⟨pa, pc, rfl, hpa, hpl, hfb⟩
      have HDb := Lib.hid (HDa.out.quiet hfb)
      have HCB := Lib.hid (HCA.out.fr hfb (fun _ _ h => h))
      have HPB := Lib.hid hpa
      have zhfb := hfb.size
      clear hpa hpl hfb HDa HCA
      go_wp2_with fail
      refine (chan_any HDb.out.b s hs HGC.out).mono ?_
      rintro e wc ⟨da, dc, rfl, hda, hdl, hfc⟩
      have HDc := Lib.hid (HDb.out.quiet hfc)
      have HCC := Lib.hid (HCB.out.fr hfc (fun _ _ h => h))
      have HPC := Lib.hid (HPB.out.fr hfc (fun _ _ h => h))
      have HSA := Lib.hid (same25_any wc _ _ C C HCC.out hda)
      rw [decide_eq_true (rfl : C = C)] at HSA
      have zhfc := hfc.size
      clear hda hdl hfc HDb HCB HPB
      go_wp2_with fail
      refine HSA.out.mono ?_
      rintro e wd ⟨rfl, md, hmd⟩
      have hfd : Fr (fun _ => False) wc wd := by rw [hmd]; exact Fr.drewN (fun _ => False) wc md
      have HDd := Lib.hid (HDc.out.quiet hfd)
      have HCD := Lib.hid (HCC.out.fr hfd (fun _ _ h => h))
      have HPD := Lib.hid (HPC.out.fr hfd (fun _ _ h => h))
      have zhfd := hfd.size
      clear hmd hfd HDc HCC HPC
      go_wp2_with fail
      refine (patt_any HDd.out.b s hs HGP.out).mono ?_
      rintro e we ⟨ea, ec, rfl, hea, hel, hfe⟩
      have HDe := Lib.hid (HDd.out.quiet hfe)
      have HCE := Lib.hid (HCD.out.fr hfe (fun _ _ h => h))
      have HSB := Lib.hid (same25_any we _ _ P P (HPD.out.fr hfe (fun _ _ h => h)) hea)
      rw [decide_eq_true (rfl : P = P)] at HSB
      have zhfe := hfe.size
      clear hea hel hfe HDd HCD HPD
      go_wp2_with fail
      refine HSB.out.mono ?_
      rintro e wf ⟨rfl, mf, hmf⟩
      have hff : Fr (fun _ => False) we wf := by rw [hmf]; exact Fr.drewN (fun _ => False) we mf
      have HDf := Lib.hid (HDe.out.quiet hff)
      have HCF := Lib.hid (HCE.out.fr hff (fun _ _ h => h))
      have zhff := hff.size
      clear hmf hff HDe HCE
      go_wp2_with fail
      refine (hubLeave_any HDf.out.a HDf.out.size s noSuch hs (by decide)).mono ?_
      rintro e wg ⟨rfl, hfg, hTg⟩
      have HDg := Lib.hid (HDf.out.step hfg hTg (does_small 3 s noSuch (fc, fp) HDf.out.sa))
      have hcg := HCF.out.fr hfg (fun i h1 h2 => by have := HLF.out i h2; have := HCLO.out i h1; omega)
      have HCG := Lib.hid hcg
      have hdl := del_len (HDf.out.a.nodupC s) noSuch
      have e1 : delF fc s noSuch s = (fc s).filter fun y => decide (y ≠ noSuch) := delF_same fc s noSuch
      have hz : ((if noSuch ∈ C then 1 else 0 : Nat) : Int) = (if noSuch ∈ C then 1 else 0 : Int) := by split <;> rfl
      have hm : noSuch ∈ C ↔ noSuch ∈ fc s := by rw [← HC.out]; exact mem_sortS _ _
      have HHA := Lib.hid (has25_any wg _ C noSuch hcg (by omega))
      obtain ⟨d, hd⟩ : ∃ d, (delF fc s noSuch s).length = d := ⟨_, rfl⟩
      obtain ⟨z, hz2⟩ : ∃ z : Nat, (if noSuch ∈ C then 1 else 0 : Nat) = z := ⟨_, rfl⟩
      have hz3 : d + z = C.length := by
        rw [← hd, ← hz2, e1, HCL.out, ← hdl]
        simp only [hm]
      rw [← hz, hz2] at HHA
      rw [hd, ← HPL.out]
      have gz : ((d + P.length : Nat) : Int) = (C.length : Int) + (P.length : Int) - (z : Int) := by omega
      have hzb : z ≤ C.length := by omega
      clear hfg hTg hcg hdl e1 hz hm hd hz2 HDf HCF
      go_wp2_with fail
      refine HHA.out.mono ?_
      rintro e wg2 ⟨rfl, rfl⟩
      have hkc : ∀ x ∈ delF fc s noSuch s, x.size ≤ maxLen := fun x hx => by have := HDg.out.sa.1 s x hx; unfold maxLen; omega
      have HDR := Lib.hid (hubDrop_any HDg.out.a HDg.out.size s hs hkc)
      clear hkc
      go_wp2_with fail
      refine HDR.out.mono ?_
      rintro e wh ⟨⟨u, rfl⟩, hfh, hTh⟩
      obtain ⟨fc2, hfc2⟩ : ∃ f, cutF (delF fc s noSuch) s = f := ⟨_, rfl⟩
      obtain ⟨fp2, hfp2⟩ : ∃ f, cutF fp s = f := ⟨_, rfl⟩
      have D9 := HDg.out.step hfh hTh (does_small 5 s noSuch (delF fc s noSuch, fp) HDg.out.sa)
      rw [hfc2, hfp2] at D9
      have HDh := Lib.hid D9
      have HSC : Hid (∀ x ∈ C, x.size ≤ 1024) := fun x hx => HSF.out x (by rw [← HC.out] at hx; exact (mem_sortS _ _).1 hx)
      have HN1 : Hid (fc2 s = []) := by rw [← hfc2]; exact cutF_eq _ s
      have HN2 : Hid (fp2 s = []) := by rw [← hfp2]; exact cutF_eq _ s
      have HCH := Lib.hid (HCG.out.fr hfh (fun i h1 h2 => by
        have h3 := HCLO.out i h1
        rcases h2 with h2 | h2
        · have := HLF.out i h2; omega
        · have := h2.1; omega))
      clear gz hz3 hzb hfh hTh hfc2 hfp2 D9 HDg HCG
      go_wp2_with fail
      go_loopw [73] (fun i wr => ∃ j : Nat, i = .int .i64 j ∧ j ≤ C.length ∧ Hid (Fr (fun _ => False) wh wr)) (fun i _ => C.length - (intOf i).toNat)
      case atStart => exact ⟨0, rfl, by omega, Fr.refl _ _⟩
      case round =>
        obtain ⟨j, rfl, hj, HF⟩ := hrel
        obtain ⟨wp, rfl⟩ : ∃ x, x = wr := ⟨_, rfl⟩
        by_cases hlt2 : j < C.length
        · obtain ⟨g9, off9, rfl, ct⟩ := texts_at (HCH.out.fr HF.out (fun _ _ h => h)) j hlt2
          obtain ⟨x, hx⟩ : ∃ x, C[j] = x := ⟨_, rfl⟩
          rw [hx] at ct
          have hxz : x.size ≤ 1024 := by
            refine HSC.out x ?_
            rw [← hx]; exact List.getElem_mem hlt2
          have HTE := Lib.hid (tellApart_any (HDh.out.a.quiet HF.out) hl HDh.out.sa x ⟨#[]⟩ (by omega) HN1.out HN2.out)
          have b0 : (0 : Int) ≤ (j : Int) := by omega
          have b1 : (j : Int) < (C.length : Int) := by omega
          clear hx hxz
          go_wp2_with fail
          refine HTE.out.mono ?_
          rintro e wq ⟨outs, ⟨oa, oc, rfl, ho, hfq, hol⟩, hne⟩
          have HO := Lib.hid ho
          have HNE := Lib.hid hne
          have HFQ := Lib.hid (HF.out.wide hfq (fun _ h => h.elim))
          clear ho hne hfq
          go_wp2_with fail
          go_loopw [81] (fun i wr => ∃ q : Nat, i = .int .i64 q ∧ q ≤ outs.length ∧ Hid (Fr (fun _ => False) wq wr)) (fun i _ => outs.length - (intOf i).toNat)
          case atStart => exact ⟨0, rfl, by omega, Fr.refl _ _⟩
          case round =>
            obtain ⟨q, rfl, hq, HFr⟩ := hrel
            obtain ⟨wz, rfl⟩ : ∃ x, x = wr := ⟨_, rfl⟩
            by_cases hlt3 : q < outs.length
            · obtain ⟨g8, off8, ua, uc, rfl, y0, y1, y2, y3, y4, _⟩ := out_at (HO.out.quiet HFr.out) q hlt3
              obtain ⟨o, hxo⟩ : ∃ x, outs[q] = x := ⟨_, rfl⟩
              have hno := HNE.out o (by rw [← hxo]; exact List.getElem_mem hlt3)
              rw [hxo] at y0 y4
              obtain ⟨os, ot⟩ := o
              have hno2 : (os == s) = false := by simpa using hno
              dsimp only at y0 y4
              have b2 : (0 : Int) ≤ (q : Int) := by omega
              have b3 : (q : Int) < (outs.length : Int) := by omega
              clear hno hxo
              go_wp2_with fail
              go_roundw
              case rel => exact ⟨q + 1, by go_num, by omega, HFr.out.thenAlloc _⟩
              case measure => simp [intOf]; omega
            · go_wp2_with fail
              go_roundw
              case rel => exact ⟨j + 1, by go_num, by omega, HFQ.out.wide HFr.out (fun _ h => h.elim)⟩
              case measure => simp [intOf]; omega
        · have HDp := Lib.hid (HDh.out.quiet HF.out)
          go_wp2_with fail
          refine (chan_any HDp.out.a s hs (C := []) (by rw [HN1.out]; simp [sortS])).mono ?_
          rintro e wq ⟨xa, xc, rfl, hx1, hx2, hx3⟩
          have HDq := Lib.hid (HDp.out.quiet hx3)
          clear hx1 hx2 hx3 HDp
          go_wp2_with fail
          refine (patt_any HDq.out.a s hs (C := []) (by rw [HN2.out]; simp [sortS])).mono ?_
          rintro e wr2 ⟨ya, yc, rfl, hx1, hx2, hx3⟩
          have HDr := Lib.hid (HDq.out.quiet hx3)
          clear hx1 hx2 hx3 HDq
          go_wp2_with fail
          refine (hubLeaveLike_any HDr.out.a HDr.out.size s ⟨#[]⟩ hs (by decide)).mono ?_
          rintro e ws ⟨rfl, hfs, hTs⟩
          have h0 : (fc2 s).length + (delF fp2 s ⟨#[]⟩ s).length = 0 := by rw [delF_same, HN1.out, HN2.out]; rfl
          rw [h0]
          have HB := Lib.hid (HDr.out.step hfs hTs (does_small 4 s ⟨#[]⟩ (fc2, fp2) HDr.out.sa)).below
          clear hfs hTs h0 HDr
          go_wp2_with fail
          go_ret
          exact ⟨rfl, HB.out⟩
end Go.Proofs.YtleoeccjnchclaaDoor

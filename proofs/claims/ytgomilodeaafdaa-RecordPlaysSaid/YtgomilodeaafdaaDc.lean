/- The walk of RecordPlays. No condition. -/
import Derived.Test.YtgomilodeaafdaaDb
namespace Go.Proofs.Ytgomilodeaafdaa
open Go.ChangeShapes Go.WideShapes Go.ChangeAt Go.RowKit Ds
set_option maxRecDepth 100000 in
set_option maxHeartbeats 8000000 in
theorem recordPlays_walk (w : World) (one two : UInt64) (v2 : Value) (l : List St9B) (hr2 : RdC w 6 v2 l.length (l.flatMap st9)) :
    Calls Try.prog 10 #[.int .u64 (wd one), .int .u64 (wd two), v2] w fun e w' => e = .returned (.bool true) ∧ Below w.heap.size w w' := by
  have hlm := hr2.len
  unfold maxLen at hlm
  have HR := Lib.hid hr2
  obtain ⟨-, a2, c2, rfl, -⟩ := hr2
  obtain ⟨j0, hj, hy0, hy1, hy2⟩ := info_parts info_rec9
  have HJ := Lib.hid hj
  have HY0 := Lib.hid hy0
  have HY1 := Lib.hid hy1
  have HY2 := Lib.hid hy2
  obtain ⟨k0, hk, hx0, hx1, hx2⟩ := info_parts info_rr9
  have HK := Lib.hid hk
  have HX0 := Lib.hid hx0
  have HX1 := Lib.hid hx1
  have HX2 := Lib.hid hx2
  have HA1 : Hid (∀ W, Calls Try.prog 22 #[.int .u64 (wd one)] W fun e w' => ∃ r d, e = .returned (.pointer (some ⟨r, 0, none⟩)) ∧ RecF w' W.heap.size (fun k => W.heap.size ≤ k ∧ k < w'.heap.size) r d ⟨one, 0, [], 0, [], 0, 0⟩ [] ∧ Below W.heap.size W w') := fun W => recNew_any W one
  have HA2 : Hid (∀ W, Calls Try.prog 22 #[.int .u64 (wd two)] W fun e w' => ∃ r d, e = .returned (.pointer (some ⟨r, 0, none⟩)) ∧ RecF w' W.heap.size (fun k => W.heap.size ≤ k ∧ k < w'.heap.size) r d ⟨two, 0, [], 0, [], 0, 0⟩ [] ∧ Below W.heap.size W w') := fun W => recNew_any W two
  have HB1 : Hid (∀ W, Calls Try.prog 55 #[.int .u64 (wd one)] W fun e w' => ∃ mr p Fd X, e = .returned (.pointer (some ⟨mr, 0, none⟩)) ∧ RrX w' W.heap.size mr (fun k => W.heap.size ≤ k ∧ k < w'.heap.size) ⟨one, [], [], 0⟩ [] [] p Fd X (.slice none 0 0) ∧ Fr (fun _ => False) W w') := fun W => rrNew_any one W
  have HB2 : Hid (∀ W, Calls Try.prog 55 #[.int .u64 (wd two)] W fun e w' => ∃ mr p Fd X, e = .returned (.pointer (some ⟨mr, 0, none⟩)) ∧ RrX w' W.heap.size mr (fun k => W.heap.size ≤ k ∧ k < w'.heap.size) ⟨two, [], [], 0⟩ [] [] p Fd X (.slice none 0 0) ∧ Fr (fun _ => False) W w') := fun W => rrNew_any two W
  obtain ⟨n1, hn1⟩ : ∃ x, wd one = x := ⟨_, rfl⟩
  obtain ⟨n2, hn2⟩ : ∃ x, wd two = x := ⟨_, rfl⟩
  rw [hn1] at HA1 HB1
  rw [hn2] at HA2 HB2
  rw [hn1, hn2]
  clear hj hy0 hy1 hy2 hk hx0 hx1 hx2 hn1 hn2
  go_enter Try.func10, Try.ntmps10
  go_wp2_with fail
  refine (HA1.out w).mono ?_
  rintro e w1 ⟨r1, d1, rfl, h1, hb1⟩
  have H1 := Lib.hid h1
  have HF1 := Lib.hid (fr_bel0 hb1)
  clear h1 hb1 HA1
  go_wp2_with fail
  refine (HA2.out w1).mono ?_
  rintro e w2 ⟨r2, d2, rfl, h2, hb2⟩
  have H2 := Lib.hid h2
  have HF2 := Lib.hid (fr_bel0 hb2)
  clear h2 hb2 HA2
  obtain ⟨w3, hw3⟩ : ∃ x, w2.alloc (.cells #[.pointer (some ⟨r1, 0, none⟩), .pointer (some ⟨r2, 0, none⟩)] 40) = x := ⟨_, rfl⟩
  have HF3 : Hid (Fr (fun _ => False) w2 w3) := by rw [← hw3]; exact Fr.alloc _ _ _
  have HG3 : Hid (w2.heap.size < w3.heap.size) := by show _ < _; rw [← hw3]; simp
  have HO3 : Hid (w3.ownsRow w.heap.size 40 1 (.slice (some ⟨w2.heap.size, 0, none⟩) 2 2) 2 [ptrV r1, ptrV r2]) := by
    show World.ownsRow _ _ _ _ _ _ _
    rw [← hw3]
    exact World.ownsRow_lit (base := w.heap.size) (e := 40) (size := 1) w2 #[ptrV r1, ptrV r2] 2 (Nat.le_trans HF1.out.size HF2.out.size) (by decide) rfl
  go_wp2_with fail
  try rw [hw3]
  clear hw3
  refine (HB1.out w3).mono ?_
  rintro e w4 ⟨m1, p1, Fd1, X1, rfl, h4, hf4⟩
  have H4 := Lib.hid h4
  have HF4 := Lib.hid hf4
  clear h4 hf4 HB1
  go_wp2_with fail
  refine (HB2.out w4).mono ?_
  rintro e w5 ⟨m2, p2, Fd2, X2, rfl, h5, hf5⟩
  have H5 := Lib.hid h5
  have HF5 := Lib.hid hf5
  clear h5 hf5 HB2
  obtain ⟨w6, hw6⟩ : ∃ x, w5.alloc (.cells #[.pointer (some ⟨m1, 0, none⟩), .pointer (some ⟨m2, 0, none⟩)] 96) = x := ⟨_, rfl⟩
  have HF6 : Hid (Fr (fun _ => False) w5 w6) := by rw [← hw6]; exact Fr.alloc _ _ _
  have HST : Hid (∃ Fa Fb, St9S w w6 (.slice (some ⟨w2.heap.size, 0, none⟩) 2 2) (.slice (some ⟨w5.heap.size, 0, none⟩) 2 2) [⟨r1, m1, Fa, []⟩, ⟨r2, m2, Fb, []⟩]) := by
    obtain ⟨Fa, Fb, hps⟩ := ps9_start H1.out HF1.out H2.out HF2.out HF3.out HG3.out (vr := .slice (some ⟨w2.heap.size, 0, none⟩) 2 2) (fun g hg => (Option.some.inj hg).symm) H4.out HF4.out H5.out HF5.out HF6.out (vm := .slice (some ⟨w5.heap.size, 0, none⟩) 2 2) (fun g hg => (Option.some.inj hg).symm)
    have z1 := HF1.out.size
    have z2 := HF2.out.size
    have z3 := HF3.out.size
    have z4 := HF4.out.size
    have z5 := HF5.out.size
    refine ⟨Fa, Fb, hps, ⟨?_, ?_⟩, Nat.le_refl _, by simp⟩
    · exact ow_fr (ow_fr (ow_fr HO3.out HF4.out (fun _ _ h => h)) HF5.out (fun _ _ h => h)) HF6.out (fun _ _ h => h)
    · rw [← hw6]
      exact World.ownsRow_lit (base := w.heap.size) (e := 96) (size := 1) w5 #[ptrV m1, ptrV m2] 2 (by omega) (by decide) rfl
  obtain ⟨g0, hg0⟩ : ∃ x, w2.heap.size = x := ⟨_, rfl⟩
  obtain ⟨g1, hg1⟩ : ∃ x, w5.heap.size = x := ⟨_, rfl⟩
  rw [hg0, hg1] at HST
  clear H1 H2 H4 H5 HF1 HF2 HF3 HG3 HO3 HF4 HF5 HF6
  go_upto_region 3 with (fail)
  try rw [hw6]
  try rw [hg0]
  try rw [hg1]
  clear hw6 hg0 hg1
  obtain ⟨Fa, Fb, hst⟩ := HST.out
  have HS6 := Lib.hid hst
  have k1 : w6.cell? ⟨g0, 0, none⟩ = some (.pointer (some ⟨r1, 0, none⟩)) := (St9S.at (k := 0) (p := ⟨r1, m1, Fa, []⟩) (ps := [⟨r1, m1, Fa, []⟩, ⟨r2, m2, Fb, []⟩]) (g := g0) (c := 2) (g2 := g1) (c2 := 2) hst rfl).1
  have k2 : w6.cell? ⟨g0, 1, none⟩ = some (.pointer (some ⟨r2, 0, none⟩)) := (St9S.at (k := 1) (p := ⟨r2, m2, Fb, []⟩) (ps := [⟨r1, m1, Fa, []⟩, ⟨r2, m2, Fb, []⟩]) (g := g0) (c := 2) (g2 := g1) (c2 := 2) hst rfl).1
  clear hst HST
  go_wp2_with fail
  clear k1 k2
  go_loopw [7, 8, 9] (fun vr vm i wr => ∃ (ps : List Q9) (k : Nat), i = .int .i64 k ∧ k ≤ l.length ∧ Hid (St9S w wr vr vm ps)) (fun _ _ i _ => l.length - (intOf i).toNat)
  case atStart => exact ⟨_, 0, rfl, by omega, HS6⟩
  case round =>
    clear HS6
    obtain ⟨ps, k, rfl, hk, HSS⟩ := hrel
    obtain ⟨wo, rfl⟩ : ∃ x, x = wr := ⟨_, rfl⟩
    obtain ⟨g, c, g2, c3, e1, e2⟩ := HSS.out.forms
    obtain ⟨vr, rfl⟩ : ∃ x, x = u7 := ⟨_, rfl⟩
    obtain ⟨vm, rfl⟩ : ∃ x, x = u8 := ⟨_, rfl⟩
    subst e1 e2
    have hlo := HSS.out.lo
    have hhi := HSS.out.hi
    by_cases hlt : k < l.length
    · obtain ⟨gs, off, e0, k0, k1, k2, k3, k4, k5⟩ := st9_at (HR.out.fr HSS.out.pp.fr (fun _ _ h => h)) k hlt
      cases e0
      obtain ⟨o, ho⟩ : ∃ o, l[k] = o := ⟨_, rfl⟩
      rw [ho] at k0 k1 k2 k3 k4 k5
      obtain ⟨⟨kd, who, f, s, n, ct⟩, hf0, hs0, hct⟩ := o
      dsimp only at k0 k1 k2 k3 k4 k5 hf0 hs0 hct
      obtain ⟨n0, hn0⟩ : ∃ x, wd n = x := ⟨_, rfl⟩
      rw [hn0] at k4
      have HN0 := Lib.hid hn0
      have HF0 := Lib.hid hf0
      have HS0 := Lib.hid hs0
      have HCT := Lib.hid hct
      have b0 : (0 : Int) ≤ (k : Int) := by omega
      have b1 : (k : Int) < (l.length : Int) := by omega
      obtain ⟨W8, hW8⟩ : ∃ x, wo.alloc (.cells #[.int .i64 kd, .int .i64 who, .string f, .string s, .int .u64 n0, .int .i64 ct] 55) = x := ⟨_, rfl⟩
      have hb8 : W8.heap[wo.heap.size]? = some (.cells #[.int .i64 kd, .int .i64 who, .string f, .string s, .int .u64 n0, .int .i64 ct] 55 (0, 0)) := by rw [← hW8]; exact alloc_new _ _
      have HS8 : Hid (St9S w W8 (.slice (some ⟨g, 0, none⟩) ps.length c) (.slice (some ⟨g2, 0, none⟩) ps.length c3) ps) := by rw [← hW8]; exact HSS.out.quiet (Fr.alloc _ _ _)
      have HD : Hid (∀ V, Fr (fun i => i ≠ wo.heap.size) W8 V → V.cell? ⟨wo.heap.size, 0, none⟩ = some (.int .i64 kd) ∧ V.cell? ⟨wo.heap.size, 1, none⟩ = some (.int .i64 who) ∧ V.cell? ⟨wo.heap.size, 2, none⟩ = some (.string f) ∧ V.cell? ⟨wo.heap.size, 3, none⟩ = some (.string s) ∧ V.cell? ⟨wo.heap.size, 4, none⟩ = some (.int .u64 n0) ∧ V.cell? ⟨wo.heap.size, 5, none⟩ = some (.int .i64 ct)) := fun V hf =>
        ⟨hf.cell (cell_of_blk hb8 0) (fun e => e rfl), hf.cell (cell_of_blk hb8 1) (fun e => e rfl), hf.cell (cell_of_blk hb8 2) (fun e => e rfl), hf.cell (cell_of_blk hb8 3) (fun e => e rfl), hf.cell (cell_of_blk hb8 4) (fun e => e rfl), hf.cell (cell_of_blk hb8 5) (fun e => e rfl)⟩
      have HFAR : Hid (∀ (i : Nat) (p : Q9), ps[i]? = some p → ∀ x, p.F x → x ≠ wo.heap.size) := fun i p hp x hx e => by have := ((HSS.out.pp.one i p hp).1.lts.1 x hx).2; omega
      clear ho hf0 hs0 hct hn0 hb8
      obtain ⟨d0, d1, d2, d3, d4, d5⟩ := HD.out W8 (Fr.refl _ _)
      go_upto_region 9 with (fail)
      try rw [hW8]
      clear hW8 k0 k1 k2 k3 k4 k5
      go_upto_if 47 with (fail)
      go_cut [11] from 48 to 48 (fun t wc => wc = W8 ∧ ∃ kk : Nat, t = .int .i64 kk ∧ kk < 2)
      case first =>
        by_cases hw : who = 0
        · have gw : (who != 0) = false := by rw [bne_eq_false_iff_eq]; exact hw
          go_wp2_with fail
          go_meet
          case rel => exact ⟨rfl, 0, rfl, by omega⟩
        · have gw : (who != 0) = true := by rw [bne_iff_ne]; exact hw
          go_wp2_with fail
          go_meet
          case rel => exact ⟨rfl, 1, rfl, by omega⟩
      case rest =>
      obtain ⟨rfl, kk, rfl, hkk⟩ := hcut
      obtain ⟨W8, rfl⟩ : ∃ x, x = wc := ⟨_, rfl⟩
      obtain ⟨p, hp⟩ : ∃ p, ps[kk]? = some p := ⟨_, List.getElem?_eq_getElem (by omega)⟩
      have HP := Lib.hid hp
      have q0 : (0 : Int) ≤ (kk : Int) := by omega
      have q1 : (kk : Int) < (ps.length : Int) := by omega
      obtain ⟨pr, hpr⟩ : ∃ x, p.r = x := ⟨_, rfl⟩
      obtain ⟨pm, hpm⟩ : ∃ x, p.m = x := ⟨_, rfl⟩
      have HPR := Lib.hid hpr
      have HPM := Lib.hid hpm
      have HBO := Lib.hid (HS8.out.pp.one kk p hp).1
      clear hp
      by_cases hcp : kd = 7 ∧ ps.length < 40
      · obtain ⟨rfl, hn40⟩ := hcp
        have g40 : decide ((ps.length : Int) < 40) = true := by rw [decide_eq_true_eq]; omega
        have hkl : kk < ps.length := by omega
        have HKL := Lib.hid hkl
        have HRF := Lib.hid HS8.out.rr.rf
        have c0 : W8.cell? ⟨g, kk, none⟩ = some (.pointer (some ⟨pr, 0, none⟩)) := by rw [← HPR.out]; exact (HS8.out.at HP.out).1
        have e8 : (ps.map Q9.r).length = ps.length := List.length_map _
        have e9 : (ps.map Q9.m).length = ps.length := List.length_map _
        rw [e8] at HRF
        have HBS : Hid (w.heap.size ≤ W8.heap.size) := HS8.out.pp.fr.size
        have HE8 := Lib.hid e8
        have HE9 := Lib.hid e9
        clear d1 d2 d3 d4 d5 e8 e9 hkl
        go_upto_region 13 with (fail)
        clear d0
        go_upto_region 14 with ((at_builtin; refine wpl_append2 rfl (.tmp 56) (.tmp 61) 95 rfl w.heap.size 40 j0 (.pointer none) 1 8 Try.underlying95 HJ.out HY0.out HY1.out HY2.out rfl (by decide) (.slice (some ⟨g, 0, none⟩) ps.length c) ps.length _ rfl (HRF.out.alloc _) _ 1 [.pointer (some ⟨pr, 0, none⟩)] rfl (RdC.of_owns (World.ownsRow_lit (base := W8.heap.size) (e := 40) (size := 1) W8 #[.pointer (some ⟨pr, 0, none⟩)] 1 (Nat.le_refl _) (by decide) rfl)) (by simp [Value.oneCell']) (by unfold maxLen; omega) (by omega) (by rw [World.size_alloc]; have := HBS.out; omega) ?_; intro v5 w5 hown hgrow hap; obtain ⟨gh, ch, e5, -, -⟩ := hown.form (by omega); subst e5; have hrm5 := HS8.out.rr.rm_after (Fr.alloc _ _ _) hgrow; rw [HE9.out] at hrm5; have HO5 := Lib.hid hown; have HG5 := Lib.hid hgrow; have HA5 := Lib.hid hap; have HM5 := Lib.hid hrm5; have c1 : w5.cell? ⟨g2, kk, none⟩ = some (.pointer (some ⟨pm, 0, none⟩)) := (by rw [hrm5.cellAt kk (by have := HKL.out; omega), ← HPM.out, List.getElem?_map, List.getElem?_map, HP.out]; rfl); have HBS5 : Hid (w.heap.size ≤ w5.heap.size) := (Nat.le_trans HBS.out (Nat.le_trans (by rw [World.size_alloc]; omega) (Fr.of_grownBy hgrow).size)); clear hown hgrow hap hrm5))
        go_upto_region 15 with (at_builtin; refine wpl_append2 rfl (.tmp 63) (.tmp 68) 98 rfl w.heap.size 96 k0 (.pointer none) 1 8 Try.underlying98 HK.out HX0.out HX1.out HX2.out rfl (by decide) (.slice (some ⟨g2, 0, none⟩) ps.length c3) ps.length _ rfl (HM5.out.alloc _) _ 1 [.pointer (some ⟨pm, 0, none⟩)] rfl (RdC.of_owns (World.ownsRow_lit (base := w5.heap.size) (e := 96) (size := 1) w5 #[.pointer (some ⟨pm, 0, none⟩)] 1 (Nat.le_refl _) (by decide) rfl)) (by simp [Value.oneCell']) (by unfold maxLen; omega) (by omega) (by rw [World.size_alloc]; have := HBS5.out; omega) ?_; intro v6 w6 hown hgrow hap; obtain ⟨gi, ci, e6, -, -⟩ := hown.form (by omega); subst e6; have HO6 := Lib.hid hown; have HG6 := Lib.hid hgrow; have HA6 := Lib.hid hap; clear hown hgrow hap)
        clear c0 c1
        have HSB6 := Lib.hid (HS8.out)
        have hrw := HS8.out.rr.app (a := pr) (b := pm) (Fr.alloc (fun _ => False) W8 (.cells #[.pointer (some ⟨pr, 0, none⟩)] 40)) (w1 := w5) (vr' := .slice (some ⟨gh, 0, none⟩) (ps.length + 1) ch) (by rw [HE8.out]; exact HO5.out) HG5.out (Fr.alloc (fun _ => False) w5 (.cells #[.pointer (some ⟨pm, 0, none⟩)] 96)) (w2 := w6) (vm' := .slice (some ⟨gi, 0, none⟩) (ps.length + 1) ci) (by rw [HE9.out]; exact HO6.out) HG6.out
        have hra : (ps.map Q9.r ++ [pr])[kk]? = some pr := by
          rw [List.getElem?_append_left (by rw [HE8.out]; exact HKL.out), List.getElem?_map, HP.out, ← HPR.out]
          rfl
        have hrb : (ps.map Q9.m ++ [pm])[kk]? = some pm := by
          rw [List.getElem?_append_left (by rw [HE9.out]; exact HKL.out), List.getElem?_map, HP.out, ← HPM.out]
          rfl
        have HRA := Lib.hid hra
        have HRB := Lib.hid hrb
        have c2 : w6.cell? ⟨gh, kk, none⟩ = some (.pointer (some ⟨pr, 0, none⟩)) := (hrw.at hra hrb).1
        have HRW := Lib.hid hrw
        have HPS := Lib.hid (HS8.out.pp.app HS8.out.rr (Fr.alloc (fun _ => False) W8 (.cells #[.pointer (some ⟨pr, 0, none⟩)] 40)) HG5.out HA5.out (Fr.alloc (fun _ => False) w5 (.cells #[.pointer (some ⟨pm, 0, none⟩)] 96)) HG6.out HA6.out)
        clear hrw hra hrb HO5 HO6 HG5 HG6 HA5 HA6 HM5
        have q2 : (kk : Int) < ((ps.length + 1 : Nat) : Int) := by omega
        obtain ⟨hBo, hAw1, hAw2⟩ := HPS.out.one kk p HP.out
        obtain ⟨F1, F2, d, M, l0, hHa⟩ := hBo
        have HHA := Lib.hid hHa
        have HAW1 := Lib.hid hAw1
        have HAW2 := Lib.hid hAw2
        have hcp1 := recCopy_any hHa
        rw [HPR.out] at hcp1
        have HCP := Lib.hid hcp1
        have HAT : Hid (∀ V, Fr (fun _ => False) w6 V → V.cell? ⟨gh, kk, none⟩ = some (.pointer (some ⟨pr, 0, none⟩)) ∧ V.cell? ⟨gi, kk, none⟩ = some (.pointer (some ⟨pm, 0, none⟩)) ∧ V.frozen? ⟨gh, kk, none⟩ = false ∧ V.frozen? ⟨gi, kk, none⟩ = false) := fun V hf => (HRW.out.quiet hf).at (a := pr) (b := pm) HRA.out HRB.out
        clear hHa hAw1 hAw2 hcp1
        go_wp2_with fail
        refine HCP.out.mono ?_
        rintro e x1 ⟨r3, d3, M3, rfl, hc, hn, hl, hf1⟩
        have HC := Lib.hid hc
        have HNN := Lib.hid hn
        have HL := Lib.hid hl
        have HF1 := Lib.hid hf1
        obtain ⟨cz, cy, fz, -⟩ := HAT.out x1 hf1
        have HRW1 := Lib.hid ((HRW.out.quiet hf1).setR (k := kk) (a := r3) (by rw [List.length_append, HE8.out]; have := HKL.out; omega))
        obtain ⟨y1, hy1⟩ : ∃ x, x1.setCell ⟨gh, kk, none⟩ (.pointer (some ⟨r3, 0, none⟩)) = x := ⟨_, rfl⟩
        have HS1 : Hid (Fr (fun i => (Value.slice (some ⟨gh, 0, none⟩) (ps.length + 1) ch).ownBlock = some i) x1 y1) := by rw [← hy1]; exact (Fr.refl _ x1).thenSet _ _ (fun _ => rfl)
        have HRW2 : Hid (Rw9 w y1 (.slice (some ⟨gh, 0, none⟩) (ps.length + 1) ch) (.slice (some ⟨gi, 0, none⟩) (ps.length + 1) ci) ((ps.map Q9.r ++ [pr]).set kk r3) (ps.map Q9.m ++ [pm])) := by rw [← hy1]; exact HRW1.out
        have hm1 := ((HHA.out.quiet hf1).m).other HS1.out (fun i hi e => HAW1.out i e (HHA.out.s2 i hi))
        have hcp2 := rrCopy_any hm1
        rw [HPM.out] at hcp2
        have HCP2 := Lib.hid hcp2
        have cy2 : y1.cell? ⟨gi, kk, none⟩ = some (.pointer (some ⟨pm, 0, none⟩)) := HS1.out.cell cy (fun e => HRW.out.ne e rfl rfl)
        clear hc hn hl hf1 hm1 hcp2 c2 cy
        go_upto_region 16 with (fail)
        try rw [hy1]
        clear hy1 cz fz
        go_wp2_with fail
        refine HCP2.out.mono ?_
        rintro e x2 ⟨m3, l3, rfl, hm, hf2⟩
        have HM2 := Lib.hid hm
        have HF2 := Lib.hid hf2
        have hat := (HRW2.out.quiet hf2).at (k := kk) (a := r3) (b := pm) (List.getElem?_set_self (by rw [List.length_append, HE8.out]; have := HKL.out; omega)) HRB.out
        obtain ⟨cw, cz, -, fz⟩ := hat
        have HRW3 := Lib.hid ((HRW2.out.quiet hf2).setM (k := kk) (a := m3) (by rw [List.length_append, HE9.out]; have := HKL.out; omega))
        obtain ⟨y2, hy2⟩ : ∃ x, x2.setCell ⟨gi, kk, none⟩ (.pointer (some ⟨m3, 0, none⟩)) = x := ⟨_, rfl⟩
        have HS2 : Hid (Fr (fun i => (Value.slice (some ⟨gi, 0, none⟩) (ps.length + 1) ci).ownBlock = some i) x2 y2) := by rw [← hy2]; exact (Fr.refl _ x2).thenSet _ _ (fun _ => rfl)
        have HRW4 : Hid (Rw9 w y2 (.slice (some ⟨gh, 0, none⟩) (ps.length + 1) ch) (.slice (some ⟨gi, 0, none⟩) (ps.length + 1) ci) ((ps.map Q9.r ++ [pr]).set kk r3) ((ps.map Q9.m ++ [pm]).set kk m3)) := by rw [← hy2]; exact HRW3.out
        have cw2 : y2.cell? ⟨gh, kk, none⟩ = some (.pointer (some ⟨r3, 0, none⟩)) := HS2.out.cell cw (fun e => HRW2.out.ne rfl e rfl)
        have HFIN : Hid (∃ ps', St9S w y2 (.slice (some ⟨gh, 0, none⟩) (ps.length + 1) ch) (.slice (some ⟨gi, 0, none⟩) (ps.length + 1) ci) ps') := by
          have h1 := HPS.out.copy HP.out HHA.out HRW.out.lr HRW.out.lm HC.out HNN.out HL.out HF1.out HS1.out HM2.out HF2.out HS2.out
          have h2 := HRW4.out
          rw [← HPR.out, ← HPM.out] at h2
          exact ⟨_, St9S.copied HP.out hlo hn40 HKL.out h1 h2⟩
        clear hm hf2 cy2 cw
        go_upto_region 17 with (fail)
        try rw [hy2]
        clear hy2 cz fz
        go_wp2_with fail
        go_roundw
        case rel =>
          obtain ⟨ps', h9⟩ := HFIN.out
          exact ⟨ps', k + 1, by go_num, by omega, h9⟩
        case measure => simp [intOf]; omega
      · have hcond : (kd == 7 && decide ((ps.length : Int) < 40)) = false := by
          by_cases h7 : kd = 7
          · have : ¬ (ps.length : Int) < 40 := by omega
            simp [this]
          · simp [h7]
        obtain ⟨c0, c1, -, -⟩ := HS8.out.at HP.out
        rw [HPR.out] at c0
        rw [HPM.out] at c1
        have hask := asked9_any (HBO.out.quiet (Fr.drew (fun _ => False) W8)) kd who f s n ct HF0.out HS0.out HCT.out
        rw [HPR.out, HPM.out, HN0.out] at hask
        have HASK := Lib.hid hask
        clear hask
        go_upto_region 12 with (fail)
        go_cut [55] from 48 to 55 (fun t wc => wc = W8 ∧ t = .bool false)
        case first =>
          by_cases h7 : kd = 7
          · subst h7
            have g40 : decide ((ps.length : Int) < 40) = false := by rw [decide_eq_false_iff_not]; omega
            go_wp2_with fail
            go_meet
            case rel => exact ⟨rfl, rfl⟩
          · have g7 : (kd == 7) = false := beq_eq_false_iff_ne.2 h7
            go_wp2_with fail
            go_meet
            case rel => exact ⟨rfl, rfl⟩
        case rest =>
        obtain ⟨rfl, rfl⟩ := hcut
        obtain ⟨W8, rfl⟩ : ∃ x, x = wc := ⟨_, rfl⟩
        clear hcond hcp
        have HAWK := Lib.hid (HS8.out.pp.one kk p HP.out).2
        have HS9 : Hid (∀ V, Fr (fun _ => False) W8 V → Fr (fun i => i ≠ wo.heap.size) W8 V → (V.cell? ⟨g, kk, none⟩ = some (.pointer (some ⟨pr, 0, none⟩)) ∧ V.cell? ⟨g2, kk, none⟩ = some (.pointer (some ⟨pm, 0, none⟩))) ∧ V.cell? ⟨wo.heap.size, 0, none⟩ = some (.int .i64 kd) ∧ V.cell? ⟨wo.heap.size, 1, none⟩ = some (.int .i64 who) ∧ V.cell? ⟨wo.heap.size, 2, none⟩ = some (.string f) ∧ V.cell? ⟨wo.heap.size, 3, none⟩ = some (.string s) ∧ V.cell? ⟨wo.heap.size, 4, none⟩ = some (.int .u64 n0) ∧ V.cell? ⟨wo.heap.size, 5, none⟩ = some (.int .i64 ct)) := fun V hf hf2 => ⟨⟨hf.cell c0 (fun h => h), hf.cell c1 (fun h => h)⟩, HD.out V hf2⟩
        go_upto_region 19 with (fail)
        refine wp_region_held_drew (S := fun V => (V.cell? ⟨g, kk, none⟩ = some (.pointer (some ⟨pr, 0, none⟩)) ∧ V.cell? ⟨g2, kk, none⟩ = some (.pointer (some ⟨pm, 0, none⟩))) ∧ V.cell? ⟨wo.heap.size, 0, none⟩ = some (.int .i64 kd) ∧ V.cell? ⟨wo.heap.size, 1, none⟩ = some (.int .i64 who) ∧ V.cell? ⟨wo.heap.size, 2, none⟩ = some (.string f) ∧ V.cell? ⟨wo.heap.size, 3, none⟩ = some (.string s) ∧ V.cell? ⟨wo.heap.size, 4, none⟩ = some (.int .u64 n0) ∧ V.cell? ⟨wo.heap.size, 5, none⟩ = some (.int .i64 ct)) (by kernel_rfl) ?_ (fun hHeld => ?_)
        · exact HS9.out _ (Fr.drew _ _) (Fr.drew _ _)
        refine takeH (i := 0) (d := 91) (v := ?vk0) rfl (by kernel_rfl) (by kernel_rfl) (by kernel_rfl) (by kernel_rfl) (fun _ _ _ h => h) (Or.inl ⟨by kernel_rfl, ?hyk0⟩) hHeld ?restk0
        case hyk0 =>
          intro w hSw
          try dsimp only at hSw
          first | (go_simp; done) | (go_simp; with_reducible rfl)
        try simp only [Act.put, List.setIfInBounds_toArray, List.set_cons_zero, List.set_cons_succ]
        refine takeH (i := 1) (d := 92) (v := ?vk1) rfl (by kernel_rfl) (by kernel_rfl) (by kernel_rfl) (by kernel_rfl) (fun _ _ _ h => h) (Or.inl ⟨by kernel_rfl, ?hyk1⟩) hHeld ?restk1
        case hyk1 =>
          intro w hSw
          try dsimp only at hSw
          first | (go_simp; done) | (go_simp; with_reducible rfl)
        try simp only [Act.put, List.setIfInBounds_toArray, List.set_cons_zero, List.set_cons_succ]
        refine takeH (i := 2) (d := 93) (v := ?vk2) rfl (by kernel_rfl) (by kernel_rfl) (by kernel_rfl) (by kernel_rfl) (fun _ _ _ h => h) (Or.inl ⟨by kernel_rfl, ?hyk2⟩) hHeld ?restk2
        case hyk2 =>
          intro w hSw
          try dsimp only at hSw
          first | (go_simp; done) | (go_simp; with_reducible rfl)
        try simp only [Act.put, List.setIfInBounds_toArray, List.set_cons_zero, List.set_cons_succ]
        refine takeH (i := 3) (d := 94) (v := ?vk3) rfl (by kernel_rfl) (by kernel_rfl) (by kernel_rfl) (by kernel_rfl) (fun _ _ _ h => h) (Or.inl ⟨by kernel_rfl, ?hyk3⟩) hHeld ?restk3
        case hyk3 =>
          intro w hSw
          try dsimp only at hSw
          first | (go_simp; done) | (go_simp; with_reducible rfl)
        try simp only [Act.put, List.setIfInBounds_toArray, List.set_cons_zero, List.set_cons_succ]
        refine takeH (i := 4) (d := 95) (v := ?vk4) rfl (by kernel_rfl) (by kernel_rfl) (by kernel_rfl) (by kernel_rfl) (fun _ _ _ h => h) (Or.inl ⟨by kernel_rfl, ?hyk4⟩) hHeld ?restk4
        case hyk4 =>
          intro w hSw
          try dsimp only at hSw
          first | (go_simp; done) | (go_simp; with_reducible rfl)
        try simp only [Act.put, List.setIfInBounds_toArray, List.set_cons_zero, List.set_cons_succ]
        refine takeH (i := 5) (d := 96) (v := ?vk5) rfl (by kernel_rfl) (by kernel_rfl) (by kernel_rfl) (by kernel_rfl) (fun _ _ _ h => h) (Or.inl ⟨by kernel_rfl, ?hyk5⟩) hHeld ?restk5
        case hyk5 =>
          intro w hSw
          try dsimp only at hSw
          first | (go_simp; done) | (go_simp; with_reducible rfl)
        try simp only [Act.put, List.setIfInBounds_toArray, List.set_cons_zero, List.set_cons_succ]
        refine takeH (i := 6) (d := 97) (v := ?vk6) rfl (by kernel_rfl) (by kernel_rfl) (by kernel_rfl) (by kernel_rfl) (fun _ _ _ h => h) (Or.inl ⟨by kernel_rfl, ?hyk6⟩) hHeld ?restk6
        case hyk6 =>
          intro w hSw
          try dsimp only at hSw
          first | (go_simp; done) | (go_simp; with_reducible rfl)
        try simp only [Act.put, List.setIfInBounds_toArray, List.set_cons_zero, List.set_cons_succ]
        refine takeH (i := 7) (d := 98) (v := ?vk7) rfl (by kernel_rfl) (by kernel_rfl) (by kernel_rfl) (by kernel_rfl) (fun _ _ _ h => h) (Or.inl ⟨by kernel_rfl, ?hyk7⟩) hHeld ?restk7
        case hyk7 =>
          intro w hSw
          try dsimp only at hSw
          first | (go_simp; done) | (go_simp; with_reducible rfl)
        try simp only [Act.put, List.setIfInBounds_toArray, List.set_cons_zero, List.set_cons_succ]
        refine takeH (i := 8) (d := 99) (v := ?vk8) rfl (by kernel_rfl) (by kernel_rfl) (by kernel_rfl) (by kernel_rfl) (fun _ _ _ h => h) (Or.inl ⟨by kernel_rfl, ?hyk8⟩) hHeld ?restk8
        case hyk8 =>
          intro w hSw
          try dsimp only at hSw
          first | (go_simp; done) | (go_simp; with_reducible rfl)
        try simp only [Act.put, List.setIfInBounds_toArray, List.set_cons_zero, List.set_cons_succ]
        refine wpAnyH_ready (rs := [9]) (by kernel_rfl) (by simp) ?_
        refine AllReadyH.cons rfl (fun K hK => ?_) AllReadyH.nil
        have HH := Lib.hid hHeld
        clear hHeld
        go_simp
        refine HASK.out.mono ?_
        rintro e x1 ⟨rfl, hbt⟩
        rw [← HPR.out, ← HPM.out] at hbt
        have HFR : Hid (Fr p.F W8.drew x1) := by obtain ⟨-, -, hf⟩ := hbt; exact hf
        have HFIN := Lib.hid ((HS8.out.quiet (Fr.drew (fun _ => False) W8)).turn HP.out hbt)
        clear hbt
        refine hK.out _ _ ?_ (fun hNew => ?_)
        · exact ⟨⟨HFR.out.cell ((HS9.out _ (Fr.drew _ _) (Fr.drew _ _)).1.1) (fun hF => HAWK.out.1 g rfl hF), HFR.out.cell ((HS9.out _ (Fr.drew _ _) (Fr.drew _ _)).1.2) (fun hF => HAWK.out.2 g2 rfl hF)⟩, HD.out _ ((Fr.drew (fun i => i ≠ wo.heap.size) W8).trans HFR.out (fun i hi _ => HFAR.out kk p HP.out i hi))⟩
        clear hK K HH
        have hHeld := hNew
        clear hNew
        try simp only [Act.put, List.setIfInBounds_toArray, List.set_cons_zero, List.set_cons_succ]
        refine takeH (i := 10) (d := 101) (v := ?vk9) rfl (by kernel_rfl) (by kernel_rfl) (by kernel_rfl) (by kernel_rfl) (fun _ _ _ h => h) (Or.inl ⟨by kernel_rfl, ?hyk9⟩) hHeld ?restk9
        case hyk9 =>
          intro w hSw
          try dsimp only at hSw
          first | (go_simp; done) | (go_simp; with_reducible rfl)
        try simp only [Act.put, List.setIfInBounds_toArray, List.set_cons_zero, List.set_cons_succ]
        refine wpAnyH_done (by kernel_rfl) ?_ _
        go_wp2_with fail
        go_roundw
        case rel =>
          obtain ⟨ps', -, h9⟩ := HFIN.out
          exact ⟨ps', k + 1, by go_num, by omega, h9⟩
        case measure => simp [intOf]; omega
    · obtain rfl : k = l.length := by omega
      have HS0 := HSS
      clear HSS
      go_wp2_with fail
      go_loopw [12] (fun i wr => ∃ (qs : List Q9) (j : Nat), i = .int .i64 j ∧ j ≤ ps.length ∧ qs.length = ps.length ∧ Hid (St9S w wr (.slice (some ⟨g, 0, none⟩) ps.length c) (.slice (some ⟨g2, 0, none⟩) ps.length c3) qs)) (fun i _ => ps.length - (intOf i).toNat)
      case atStart => exact ⟨ps, 0, rfl, by omega, rfl, HS0⟩
      case round =>
        obtain ⟨qs, j, rfl, hj, hqs, HSQ⟩ := hrel
        obtain ⟨wq, rfl⟩ : ∃ x, x = wr := ⟨_, rfl⟩
        have HLQ := Lib.hid hqs
        clear HS0
        by_cases hlj : j < ps.length
        · obtain ⟨p, hp⟩ : ∃ p, qs[j]? = some p := ⟨_, List.getElem?_eq_getElem (by omega)⟩
          have HPJ := Lib.hid hp
          have HAWJ := Lib.hid (HSQ.out.pp.one j p hp).2
          have hbo := (HSQ.out.pp.one j p hp).1
          have HBO := Lib.hid hbo
          have hcell : ∀ V, Fr (fun _ => False) wq V → V.cell? ⟨g, j, none⟩ = some (.pointer (some ⟨p.r, 0, none⟩)) ∧ V.cell? ⟨g2, j, none⟩ = some (.pointer (some ⟨p.m, 0, none⟩)) := fun V hf => ⟨((HSQ.out.quiet hf).at hp).1, ((HSQ.out.quiet hf).at hp).2.1⟩
          obtain ⟨F1, F2, d, M, l0, hHa⟩ := hbo
          have hp1 : ∀ V, Fr (fun _ => False) wq V → Calls Try.prog 25 #[.pointer (some ⟨p.r, 0, none⟩)] V fun e w' => ∃ a c, e = .returned (.slice a l0.length c) ∧ RowP V.heap.size w' (.slice a l0.length c) l0 ∧ Fr (fun _ => False) V w' := fun V hf => bo9_pairs (hHa.quiet hf)
          have hp2 : ∀ V, Fr (fun _ => False) wq V → Calls Try.prog 60 #[.pointer (some ⟨p.m, 0, none⟩)] V fun e w' => ∃ a c, e = .returned (.slice a l0.length c) ∧ RowP V.heap.size w' (.slice a l0.length c) l0 ∧ Fr (fun _ => False) V w' := fun V hf => bo9_rpairs (hHa.quiet hf)
          have hk1 : ∀ V, Fr (fun _ => False) wq V → Calls Try.prog 32 #[.pointer (some ⟨p.r, 0, none⟩)] V fun e w' => e = .returned (.int .i64 (costP l0 : Nat)) ∧ Fr (fun _ => False) V w' := fun V hf => by
            have h9 := recCost_any V _ F1 p.r d M p.A (hHa.quiet hf).f
            rw [← costP_perm hHa.m.perm] at h9
            exact h9.mono fun e w' ⟨q1, q2⟩ => ⟨q1, q2 ▸ Fr.refl _ _⟩
          have hk2 : ∀ V, Fr (fun _ => False) wq V → Calls Try.prog 61 #[.pointer (some ⟨p.m, 0, none⟩)] V fun e w' => e = .returned (.int .i64 (costP l0 : Nat)) ∧ Fr (fun _ => False) V w' := fun V hf => by
            obtain ⟨p0, Fd, X, av, hxx⟩ := (hHa.quiet hf).m.x
            exact rrCost_any V _ p.m p0 F2 Fd _ _ l0 X av hxx hHa.m.few hHa.m.fit
          have hl1 : ∀ V, Fr (fun _ => False) wq V → Calls Try.prog 26 #[.pointer (some ⟨p.r, 0, none⟩)] V fun e w' => e = .returned (.int .i64 (l0.length : Nat)) ∧ Fr (fun _ => False) V w' := fun V hf => by
            have h9 := recLen_any V _ F1 p.r d M p.A (hHa.quiet hf).f
            rw [← hHa.m.perm.length_eq] at h9
            exact h9.mono fun e w' ⟨q1, q2⟩ => ⟨q1, q2 ▸ Fr.refl _ _⟩
          have hl2 : ∀ V, Fr (fun _ => False) wq V → Calls Try.prog 62 #[.pointer (some ⟨p.m, 0, none⟩)] V fun e w' => e = .returned (.int .i64 (l0.length : Nat)) ∧ Fr (fun _ => False) V w' := fun V hf => by
            obtain ⟨p0, Fd, X, av, hxx⟩ := (hHa.quiet hf).m.x
            exact (rrLen_any V _ p.m p0 F2 Fd _ _ l0 X av hxx).mono fun e w' ⟨q1, q2⟩ => ⟨q1, q2 ▸ Fr.refl _ _⟩
          have has : ∀ V, Fr (fun _ => False) wq V → Calls Try.prog 58 #[.pointer (some ⟨p.r, 0, none⟩), .pointer (some ⟨p.m, 0, none⟩), .agg #[.int .i64 5, .int .i64 0, .string ⟨#[]⟩, .string ⟨#[]⟩, .int .u64 0, .int .i64 5]] V fun e w' => e = .returned (.bool true) ∧ BoTo9 w V p.F p.r p.m w' := fun V hf => asked9_any (HBO.out.quiet hf) 5 0 ⟨#[]⟩ ⟨#[]⟩ 0 5 (by decide) (by decide) (by unfold InI; omega)
          have HP1 := Lib.hid hp1
          have HP2 := Lib.hid hp2
          have HK1 := Lib.hid hk1
          have HK2 := Lib.hid hk2
          have HL1 := Lib.hid hl1
          have HL2 := Lib.hid hl2
          have HAS := Lib.hid has
          have HCELL := Lib.hid hcell
          clear hp1 hp2 hk1 hk2 hl1 hl2 has hcell hHa hp
          obtain ⟨pr, hpr⟩ : ∃ x, p.r = x := ⟨_, rfl⟩
          obtain ⟨pm, hpm⟩ : ∃ x, p.m = x := ⟨_, rfl⟩
          rw [hpr] at HP1 HK1 HL1 HAS HCELL
          rw [hpm] at HP2 HK2 HL2 HAS HCELL
          obtain ⟨cv, hcv⟩ : ∃ x, costP l0 = x := ⟨_, rfl⟩
          rw [hcv] at HK1 HK2
          have gb1 : ((cv : Int) == (cv : Int)) = true := beq_self_eq_true _
          have gb2 : ((cv : Int) != (cv : Int)) = false := by rw [bne, gb1]; rfl
          have gb3 : ((l0.length : Int) == (l0.length : Int)) = true := beq_self_eq_true _
          have gb4 : ((l0.length : Int) != (l0.length : Int)) = false := by rw [bne, gb3]; rfl
          have b0 : (0 : Int) ≤ (j : Int) := by omega
          have b1 : (j : Int) < (ps.length : Int) := by omega
          clear hcv
          have HPRE := Lib.hid hpr
          have HPME := Lib.hid hpm
          clear hpr hpm
          have HD : Hid (Fr (fun _ => False) wq wq.drew) := Fr.drew _ _
          go_upto_region 24 with (fail)
          refine wp_region_held_drew (S := fun V => V.cell? ⟨g, j, none⟩ = some (.pointer (some ⟨pr, 0, none⟩)) ∧ V.cell? ⟨g2, j, none⟩ = some (.pointer (some ⟨pm, 0, none⟩))) (by kernel_rfl) ?_ (fun hHeld => ?_)
          · exact HCELL.out _ HD.out
          refine takeH (i := 0) (d := 108) (v := ?ve0) rfl (by kernel_rfl) (by kernel_rfl) (by kernel_rfl) (by kernel_rfl) (fun _ _ _ h => h) (Or.inl ⟨by kernel_rfl, ?hye0⟩) hHeld ?reste0
          case hye0 =>
            intro w hSw
            try dsimp only at hSw
            first | (go_simp; done) | (go_simp; with_reducible rfl)
          try simp only [Act.put, List.setIfInBounds_toArray, List.set_cons_zero, List.set_cons_succ]
          refine takeH (i := 1) (d := 109) (v := ?ve1) rfl (by kernel_rfl) (by kernel_rfl) (by kernel_rfl) (by kernel_rfl) (fun _ _ _ h => h) (Or.inl ⟨by kernel_rfl, ?hye1⟩) hHeld ?reste1
          case hye1 =>
            intro w hSw
            try dsimp only at hSw
            first | (go_simp; done) | (go_simp; with_reducible rfl)
          try simp only [Act.put, List.setIfInBounds_toArray, List.set_cons_zero, List.set_cons_succ]
          refine takeH (i := 2) (d := 110) (v := ?ve2) rfl (by kernel_rfl) (by kernel_rfl) (by kernel_rfl) (by kernel_rfl) (fun _ _ _ h => h) (Or.inl ⟨by kernel_rfl, ?hye2⟩) hHeld ?reste2
          case hye2 =>
            intro w hSw
            try dsimp only at hSw
            first | (go_simp; done) | (go_simp; with_reducible rfl)
          try simp only [Act.put, List.setIfInBounds_toArray, List.set_cons_zero, List.set_cons_succ]
          refine takeH (i := 3) (d := 111) (v := ?ve3) rfl (by kernel_rfl) (by kernel_rfl) (by kernel_rfl) (by kernel_rfl) (fun _ _ _ h => h) (Or.inl ⟨by kernel_rfl, ?hye3⟩) hHeld ?reste3
          case hye3 =>
            intro w hSw
            try dsimp only at hSw
            first | (go_simp; done) | (go_simp; with_reducible rfl)
          try simp only [Act.put, List.setIfInBounds_toArray, List.set_cons_zero, List.set_cons_succ]
          refine takeH (i := 5) (d := 113) (v := ?ve4) rfl (by kernel_rfl) (by kernel_rfl) (by kernel_rfl) (by kernel_rfl) (fun _ _ _ h => h) (Or.inl ⟨by kernel_rfl, ?hye4⟩) hHeld ?reste4
          case hye4 =>
            intro w hSw
            try dsimp only at hSw
            first | (go_simp; done) | (go_simp; with_reducible rfl)
          try simp only [Act.put, List.setIfInBounds_toArray, List.set_cons_zero, List.set_cons_succ]
          refine takeH (i := 6) (d := 114) (v := ?ve5) rfl (by kernel_rfl) (by kernel_rfl) (by kernel_rfl) (by kernel_rfl) (fun _ _ _ h => h) (Or.inl ⟨by kernel_rfl, ?hye5⟩) hHeld ?reste5
          case hye5 =>
            intro w hSw
            try dsimp only at hSw
            first | (go_simp; done) | (go_simp; with_reducible rfl)
          try simp only [Act.put, List.setIfInBounds_toArray, List.set_cons_zero, List.set_cons_succ]
          refine takeH (i := 7) (d := 115) (v := ?ve6) rfl (by kernel_rfl) (by kernel_rfl) (by kernel_rfl) (by kernel_rfl) (fun _ _ _ h => h) (Or.inl ⟨by kernel_rfl, ?hye6⟩) hHeld ?reste6
          case hye6 =>
            intro w hSw
            try dsimp only at hSw
            first | (go_simp; done) | (go_simp; with_reducible rfl)
          try simp only [Act.put, List.setIfInBounds_toArray, List.set_cons_zero, List.set_cons_succ]
          refine takeH (i := 8) (d := 116) (v := ?ve7) rfl (by kernel_rfl) (by kernel_rfl) (by kernel_rfl) (by kernel_rfl) (fun _ _ _ h => h) (Or.inl ⟨by kernel_rfl, ?hye7⟩) hHeld ?reste7
          case hye7 =>
            intro w hSw
            try dsimp only at hSw
            first | (go_simp; done) | (go_simp; with_reducible rfl)
          try simp only [Act.put, List.setIfInBounds_toArray, List.set_cons_zero, List.set_cons_succ]
          refine wpAnyH_ready (rs := [4]) (by kernel_rfl) (by simp) ?_
          refine AllReadyH.cons rfl (fun K hK => ?_) AllReadyH.nil
          have HH := Lib.hid hHeld
          clear hHeld
          go_simp
          refine (HP1.out _ HD.out).mono ?_
          rintro e x1 ⟨aa, ac, rfl, ha, hf1⟩
          have HA1 := Lib.hid ha
          have HF1 := Lib.hid (HD.out.trans hf1 (fun _ h _ => h))
          clear ha hf1
          refine hK.out _ _ ?_ (fun hNew => ?_)
          · exact HCELL.out _ HF1.out
          clear hK K HH
          have hHeld := hNew
          clear hNew
          try simp only [Act.put, List.setIfInBounds_toArray, List.set_cons_zero, List.set_cons_succ]
          refine wpAnyH_ready (rs := [9]) (by kernel_rfl) (by simp) ?_
          refine AllReadyH.cons rfl (fun K hK => ?_) AllReadyH.nil
          have HH := Lib.hid hHeld
          clear hHeld
          go_simp
          refine (HP2.out _ HF1.out).mono ?_
          rintro e x2 ⟨ba, bc, rfl, hb, hf2⟩
          have HB2 := Lib.hid hb
          have HA2 := Lib.hid (ow_fr HA1.out hf2 (fun _ _ h => h))
          have HF2 := Lib.hid (HF1.out.trans hf2 (fun _ h _ => h))
          have HSM := Lib.hid (samePairs_any x2 _ _ l0 l0 (RdC.of_owns HA2.out) (RdC.of_owns hb))
          rw [decide_eq_true rfl] at HSM
          clear hb hf2 HA1
          refine hK.out _ _ ?_ (fun hNew => ?_)
          · exact HCELL.out _ HF2.out
          clear hK K HH
          have hHeld := hNew
          clear hNew
          try simp only [Act.put, List.setIfInBounds_toArray, List.set_cons_zero, List.set_cons_succ]
          refine wpAnyH_ready (rs := [10]) (by kernel_rfl) (by simp) ?_
          refine AllReadyH.cons rfl (fun K hK => ?_) AllReadyH.nil
          have HH := Lib.hid hHeld
          clear hHeld
          go_simp
          refine HSM.out.mono ?_
          rintro e x3 ⟨rfl, hf3⟩
          have HF3 := Lib.hid (HF2.out.trans hf3 (fun _ h _ => h))
          clear hf3 HSM HA2 HB2
          refine hK.out _ _ ?_ (fun hNew => ?_)
          · exact HCELL.out _ HF3.out
          clear hK K HH
          have hHeld := hNew
          clear hNew
          try simp only [Act.put, List.setIfInBounds_toArray, List.set_cons_zero, List.set_cons_succ]
          refine takeH (i := 11) (d := 119) (v := ?ve8) rfl (by kernel_rfl) (by kernel_rfl) (by kernel_rfl) (by kernel_rfl) (fun _ _ _ h => h) (Or.inl ⟨by kernel_rfl, ?hye8⟩) hHeld ?reste8
          case hye8 =>
            intro w hSw
            try dsimp only at hSw
            first | (go_simp; done) | (go_simp; with_reducible rfl)
          try simp only [Act.put, List.setIfInBounds_toArray, List.set_cons_zero, List.set_cons_succ]
          refine takeH (i := 12) (d := 120) (v := ?ve9) rfl (by kernel_rfl) (by kernel_rfl) (by kernel_rfl) (by kernel_rfl) (fun _ _ _ h => h) (Or.inl ⟨by kernel_rfl, ?hye9⟩) hHeld ?reste9
          case hye9 =>
            intro w hSw
            try dsimp only at hSw
            first | (go_simp; done) | (go_simp; with_reducible rfl)
          try simp only [Act.put, List.setIfInBounds_toArray, List.set_cons_zero, List.set_cons_succ]
          refine takeH (i := 13) (d := 121) (v := ?ve10) rfl (by kernel_rfl) (by kernel_rfl) (by kernel_rfl) (by kernel_rfl) (fun _ _ _ h => h) (Or.inl ⟨by kernel_rfl, ?hye10⟩) hHeld ?reste10
          case hye10 =>
            intro w hSw
            try dsimp only at hSw
            first | (go_simp; done) | (go_simp; with_reducible rfl)
          try simp only [Act.put, List.setIfInBounds_toArray, List.set_cons_zero, List.set_cons_succ]
          refine takeH (i := 14) (d := 122) (v := ?ve11) rfl (by kernel_rfl) (by kernel_rfl) (by kernel_rfl) (by kernel_rfl) (fun _ _ _ h => h) (Or.inl ⟨by kernel_rfl, ?hye11⟩) hHeld ?reste11
          case hye11 =>
            intro w hSw
            try dsimp only at hSw
            first | (go_simp; done) | (go_simp; with_reducible rfl)
          try simp only [Act.put, List.setIfInBounds_toArray, List.set_cons_zero, List.set_cons_succ]
          refine takeH (i := 15) (d := 123) (v := ?ve12) rfl (by kernel_rfl) (by kernel_rfl) (by kernel_rfl) (by kernel_rfl) (fun _ _ _ h => h) (Or.inl ⟨by kernel_rfl, ?hye12⟩) hHeld ?reste12
          case hye12 =>
            intro w hSw
            try dsimp only at hSw
            first | (go_simp; done) | (go_simp; with_reducible rfl)
          try simp only [Act.put, List.setIfInBounds_toArray, List.set_cons_zero, List.set_cons_succ]
          refine takeH (i := 16) (d := 124) (v := ?ve13) rfl (by kernel_rfl) (by kernel_rfl) (by kernel_rfl) (by kernel_rfl) (fun _ _ _ h => h) (Or.inl ⟨by kernel_rfl, ?hye13⟩) hHeld ?reste13
          case hye13 =>
            intro w hSw
            try dsimp only at hSw
            first | (go_simp; done) | (go_simp; with_reducible rfl)
          try simp only [Act.put, List.setIfInBounds_toArray, List.set_cons_zero, List.set_cons_succ]
          refine takeH (i := 18) (d := 126) (v := ?ve14) rfl (by kernel_rfl) (by kernel_rfl) (by kernel_rfl) (by kernel_rfl) (fun _ _ _ h => h) (Or.inl ⟨by kernel_rfl, ?hye14⟩) hHeld ?reste14
          case hye14 =>
            intro w hSw
            try dsimp only at hSw
            first | (go_simp; done) | (go_simp; with_reducible rfl)
          try simp only [Act.put, List.setIfInBounds_toArray, List.set_cons_zero, List.set_cons_succ]
          refine takeH (i := 19) (d := 127) (v := ?ve15) rfl (by kernel_rfl) (by kernel_rfl) (by kernel_rfl) (by kernel_rfl) (fun _ _ _ h => h) (Or.inl ⟨by kernel_rfl, ?hye15⟩) hHeld ?reste15
          case hye15 =>
            intro w hSw
            try dsimp only at hSw
            first | (go_simp; done) | (go_simp; with_reducible rfl)
          try simp only [Act.put, List.setIfInBounds_toArray, List.set_cons_zero, List.set_cons_succ]
          refine takeH (i := 20) (d := 128) (v := ?ve16) rfl (by kernel_rfl) (by kernel_rfl) (by kernel_rfl) (by kernel_rfl) (fun _ _ _ h => h) (Or.inl ⟨by kernel_rfl, ?hye16⟩) hHeld ?reste16
          case hye16 =>
            intro w hSw
            try dsimp only at hSw
            first | (go_simp; done) | (go_simp; with_reducible rfl)
          try simp only [Act.put, List.setIfInBounds_toArray, List.set_cons_zero, List.set_cons_succ]
          refine takeH (i := 21) (d := 129) (v := ?ve17) rfl (by kernel_rfl) (by kernel_rfl) (by kernel_rfl) (by kernel_rfl) (fun _ _ _ h => h) (Or.inl ⟨by kernel_rfl, ?hye17⟩) hHeld ?reste17
          case hye17 =>
            intro w hSw
            try dsimp only at hSw
            first | (go_simp; done) | (go_simp; with_reducible rfl)
          try simp only [Act.put, List.setIfInBounds_toArray, List.set_cons_zero, List.set_cons_succ]
          refine wpAnyH_ready (rs := [17]) (by kernel_rfl) (by simp) ?_
          refine AllReadyH.cons rfl (fun K hK => ?_) AllReadyH.nil
          have HH := Lib.hid hHeld
          clear hHeld
          go_simp
          refine (HK1.out _ HF3.out).mono ?_
          rintro e x4 ⟨rfl, hf4⟩
          have HF4 := Lib.hid (HF3.out.trans hf4 (fun _ h _ => h))
          clear hf4
          refine hK.out _ _ ?_ (fun hNew => ?_)
          · exact HCELL.out _ HF4.out
          clear hK K HH
          have hHeld := hNew
          clear hNew
          try simp only [Act.put, List.setIfInBounds_toArray, List.set_cons_zero, List.set_cons_succ]
          refine wpAnyH_ready (rs := [22]) (by kernel_rfl) (by simp) ?_
          refine AllReadyH.cons rfl (fun K hK => ?_) AllReadyH.nil
          have HH := Lib.hid hHeld
          clear hHeld
          go_simp
          refine (HK2.out _ HF4.out).mono ?_
          rintro e x5 ⟨rfl, hf5⟩
          have HF5 := Lib.hid (HF4.out.trans hf5 (fun _ h _ => h))
          clear hf5
          refine hK.out _ _ ?_ (fun hNew => ?_)
          · exact HCELL.out _ HF5.out
          clear hK K HH
          have hHeld := hNew
          clear hNew
          try simp only [Act.put, List.setIfInBounds_toArray, List.set_cons_zero, List.set_cons_succ]
          refine takeH (i := 23) (d := 131) (v := ?ve18) rfl (by kernel_rfl) (by kernel_rfl) (by kernel_rfl) (by kernel_rfl) (fun _ _ _ h => h) (Or.inl ⟨by kernel_rfl, ?hye18⟩) hHeld ?reste18
          case hye18 =>
            intro w hSw
            try dsimp only at hSw
            first | (go_simp; done) | (go_simp; with_reducible rfl)
          try simp only [Act.put, List.setIfInBounds_toArray, List.set_cons_zero, List.set_cons_succ]
          refine takeH (i := 24) (d := 132) (v := ?ve19) rfl (by kernel_rfl) (by kernel_rfl) (by kernel_rfl) (by kernel_rfl) (fun _ _ _ h => h) (Or.inl ⟨by kernel_rfl, ?hye19⟩) hHeld ?reste19
          case hye19 =>
            intro w hSw
            try dsimp only at hSw
            first | (go_simp; done) | (go_simp; with_reducible rfl)
          try simp only [Act.put, List.setIfInBounds_toArray, List.set_cons_zero, List.set_cons_succ]
          refine takeH (i := 25) (d := 133) (v := ?ve20) rfl (by kernel_rfl) (by kernel_rfl) (by kernel_rfl) (by kernel_rfl) (fun _ _ _ h => h) (Or.inl ⟨by kernel_rfl, ?hye20⟩) hHeld ?reste20
          case hye20 =>
            intro w hSw
            try dsimp only at hSw
            first | (go_simp; done) | (go_simp; with_reducible rfl)
          try simp only [Act.put, List.setIfInBounds_toArray, List.set_cons_zero, List.set_cons_succ]
          refine takeH (i := 26) (d := 134) (v := ?ve21) rfl (by kernel_rfl) (by kernel_rfl) (by kernel_rfl) (by kernel_rfl) (fun _ _ _ h => h) (Or.inl ⟨by kernel_rfl, ?hye21⟩) hHeld ?reste21
          case hye21 =>
            intro w hSw
            try dsimp only at hSw
            first | (go_simp; done) | (go_simp; with_reducible rfl)
          try simp only [Act.put, List.setIfInBounds_toArray, List.set_cons_zero, List.set_cons_succ]
          refine takeH (i := 27) (d := 135) (v := ?ve22) rfl (by kernel_rfl) (by kernel_rfl) (by kernel_rfl) (by kernel_rfl) (fun _ _ _ h => h) (Or.inl ⟨by kernel_rfl, ?hye22⟩) hHeld ?reste22
          case hye22 =>
            intro w hSw
            try dsimp only at hSw
            first | (go_simp; done) | (go_simp; with_reducible rfl)
          try simp only [Act.put, List.setIfInBounds_toArray, List.set_cons_zero, List.set_cons_succ]
          refine takeH (i := 28) (d := 136) (v := ?ve23) rfl (by kernel_rfl) (by kernel_rfl) (by kernel_rfl) (by kernel_rfl) (fun _ _ _ h => h) (Or.inl ⟨by kernel_rfl, ?hye23⟩) hHeld ?reste23
          case hye23 =>
            intro w hSw
            try dsimp only at hSw
            first | (go_simp; done) | (go_simp; with_reducible rfl)
          try simp only [Act.put, List.setIfInBounds_toArray, List.set_cons_zero, List.set_cons_succ]
          refine takeH (i := 29) (d := 137) (v := ?ve24) rfl (by kernel_rfl) (by kernel_rfl) (by kernel_rfl) (by kernel_rfl) (fun _ _ _ h => h) (Or.inl ⟨by kernel_rfl, ?hye24⟩) hHeld ?reste24
          case hye24 =>
            intro w hSw
            try dsimp only at hSw
            first | (go_simp; done) | (go_simp; with_reducible rfl)
          try simp only [Act.put, List.setIfInBounds_toArray, List.set_cons_zero, List.set_cons_succ]
          refine takeH (i := 31) (d := 139) (v := ?ve25) rfl (by kernel_rfl) (by kernel_rfl) (by kernel_rfl) (by kernel_rfl) (fun _ _ _ h => h) (Or.inl ⟨by kernel_rfl, ?hye25⟩) hHeld ?reste25
          case hye25 =>
            intro w hSw
            try dsimp only at hSw
            first | (go_simp; done) | (go_simp; with_reducible rfl)
          try simp only [Act.put, List.setIfInBounds_toArray, List.set_cons_zero, List.set_cons_succ]
          refine takeH (i := 32) (d := 140) (v := ?ve26) rfl (by kernel_rfl) (by kernel_rfl) (by kernel_rfl) (by kernel_rfl) (fun _ _ _ h => h) (Or.inl ⟨by kernel_rfl, ?hye26⟩) hHeld ?reste26
          case hye26 =>
            intro w hSw
            try dsimp only at hSw
            first | (go_simp; done) | (go_simp; with_reducible rfl)
          try simp only [Act.put, List.setIfInBounds_toArray, List.set_cons_zero, List.set_cons_succ]
          refine takeH (i := 33) (d := 141) (v := ?ve27) rfl (by kernel_rfl) (by kernel_rfl) (by kernel_rfl) (by kernel_rfl) (fun _ _ _ h => h) (Or.inl ⟨by kernel_rfl, ?hye27⟩) hHeld ?reste27
          case hye27 =>
            intro w hSw
            try dsimp only at hSw
            first | (go_simp; done) | (go_simp; with_reducible rfl)
          try simp only [Act.put, List.setIfInBounds_toArray, List.set_cons_zero, List.set_cons_succ]
          refine takeH (i := 34) (d := 142) (v := ?ve28) rfl (by kernel_rfl) (by kernel_rfl) (by kernel_rfl) (by kernel_rfl) (fun _ _ _ h => h) (Or.inl ⟨by kernel_rfl, ?hye28⟩) hHeld ?reste28
          case hye28 =>
            intro w hSw
            try dsimp only at hSw
            first | (go_simp; done) | (go_simp; with_reducible rfl)
          try simp only [Act.put, List.setIfInBounds_toArray, List.set_cons_zero, List.set_cons_succ]
          refine wpAnyH_ready (rs := [30]) (by kernel_rfl) (by simp) ?_
          refine AllReadyH.cons rfl (fun K hK => ?_) AllReadyH.nil
          have HH := Lib.hid hHeld
          clear hHeld
          go_simp
          refine (HL1.out _ HF5.out).mono ?_
          rintro e x6 ⟨rfl, hf6⟩
          have HF6 := Lib.hid (HF5.out.trans hf6 (fun _ h _ => h))
          clear hf6
          refine hK.out _ _ ?_ (fun hNew => ?_)
          · exact HCELL.out _ HF6.out
          clear hK K HH
          have hHeld := hNew
          clear hNew
          try simp only [Act.put, List.setIfInBounds_toArray, List.set_cons_zero, List.set_cons_succ]
          refine wpAnyH_ready (rs := [35]) (by kernel_rfl) (by simp) ?_
          refine AllReadyH.cons rfl (fun K hK => ?_) AllReadyH.nil
          have HH := Lib.hid hHeld
          clear hHeld
          go_simp
          refine (HL2.out _ HF6.out).mono ?_
          rintro e x7 ⟨rfl, hf7⟩
          have HF7 := Lib.hid (HF6.out.trans hf7 (fun _ h _ => h))
          have HASK := Lib.hid (HAS.out _ HF7.out)
          have HTN : Hid (∀ V, BoTo9 w x7 p.F p.r p.m V → ∃ ps', ps'.length = ps.length ∧ St9S w V (.slice (some ⟨g, 0, none⟩) ps.length c) (.slice (some ⟨g2, 0, none⟩) ps.length c3) ps' ∧ (V.cell? ⟨g, j, none⟩ = some (.pointer (some ⟨pr, 0, none⟩)) ∧ V.cell? ⟨g2, j, none⟩ = some (.pointer (some ⟨pm, 0, none⟩)))) := fun V hbt => by obtain ⟨ps', e1, h9⟩ := (HSQ.out.quiet HF7.out).turn HPJ.out hbt; obtain ⟨-, -, hf9⟩ := hbt; exact ⟨ps', e1.trans HLQ.out, h9, hf9.cell (HCELL.out _ HF7.out).1 (fun hF => HAWJ.out.1 g rfl hF), hf9.cell (HCELL.out _ HF7.out).2 (fun hF => HAWJ.out.2 g2 rfl hF)⟩
          clear hf7
          refine hK.out _ _ ?_ (fun hNew => ?_)
          · exact HCELL.out _ HF7.out
          clear hK K HH
          have hHeld := hNew
          clear hNew
          try simp only [Act.put, List.setIfInBounds_toArray, List.set_cons_zero, List.set_cons_succ]
          refine takeH (i := 36) (d := 144) (v := ?ve29) rfl (by kernel_rfl) (by kernel_rfl) (by kernel_rfl) (by kernel_rfl) (fun _ _ _ h => h) (Or.inl ⟨by kernel_rfl, ?hye29⟩) hHeld ?reste29
          case hye29 =>
            intro w hSw
            try dsimp only at hSw
            first | (go_simp; done) | (go_simp; with_reducible rfl)
          try simp only [Act.put, List.setIfInBounds_toArray, List.set_cons_zero, List.set_cons_succ]
          refine takeH (i := 37) (d := 145) (v := ?ve30) rfl (by kernel_rfl) (by kernel_rfl) (by kernel_rfl) (by kernel_rfl) (fun _ _ _ h => h) (Or.inl ⟨by kernel_rfl, ?hye30⟩) hHeld ?reste30
          case hye30 =>
            intro w hSw
            try dsimp only at hSw
            first | (go_simp; done) | (go_simp; with_reducible rfl)
          try simp only [Act.put, List.setIfInBounds_toArray, List.set_cons_zero, List.set_cons_succ]
          refine takeH (i := 38) (d := 146) (v := ?ve31) rfl (by kernel_rfl) (by kernel_rfl) (by kernel_rfl) (by kernel_rfl) (fun _ _ _ h => h) (Or.inl ⟨by kernel_rfl, ?hye31⟩) hHeld ?reste31
          case hye31 =>
            intro w hSw
            try dsimp only at hSw
            first | (go_simp; done) | (go_simp; with_reducible rfl)
          try simp only [Act.put, List.setIfInBounds_toArray, List.set_cons_zero, List.set_cons_succ]
          refine takeH (i := 39) (d := 147) (v := ?ve32) rfl (by kernel_rfl) (by kernel_rfl) (by kernel_rfl) (by kernel_rfl) (fun _ _ _ h => h) (Or.inl ⟨by kernel_rfl, ?hye32⟩) hHeld ?reste32
          case hye32 =>
            intro w hSw
            try dsimp only at hSw
            first | (go_simp; done) | (go_simp; with_reducible rfl)
          try simp only [Act.put, List.setIfInBounds_toArray, List.set_cons_zero, List.set_cons_succ]
          refine takeH (i := 40) (d := 148) (v := ?ve33) rfl (by kernel_rfl) (by kernel_rfl) (by kernel_rfl) (by kernel_rfl) (fun _ _ _ h => h) (Or.inl ⟨by kernel_rfl, ?hye33⟩) hHeld ?reste33
          case hye33 =>
            intro w hSw
            try dsimp only at hSw
            first | (go_simp; done) | (go_simp; with_reducible rfl)
          try simp only [Act.put, List.setIfInBounds_toArray, List.set_cons_zero, List.set_cons_succ]
          refine takeH (i := 41) (d := 149) (v := ?ve34) rfl (by kernel_rfl) (by kernel_rfl) (by kernel_rfl) (by kernel_rfl) (fun _ _ _ h => h) (Or.inl ⟨by kernel_rfl, ?hye34⟩) hHeld ?reste34
          case hye34 =>
            intro w hSw
            try dsimp only at hSw
            first | (go_simp; done) | (go_simp; with_reducible rfl)
          try simp only [Act.put, List.setIfInBounds_toArray, List.set_cons_zero, List.set_cons_succ]
          refine takeH (i := 42) (d := 150) (v := ?ve35) rfl (by kernel_rfl) (by kernel_rfl) (by kernel_rfl) (by kernel_rfl) (fun _ _ _ h => h) (Or.inl ⟨by kernel_rfl, ?hye35⟩) hHeld ?reste35
          case hye35 =>
            intro w hSw
            try dsimp only at hSw
            first | (go_simp; done) | (go_simp; with_reducible rfl)
          try simp only [Act.put, List.setIfInBounds_toArray, List.set_cons_zero, List.set_cons_succ]
          refine takeH (i := 43) (d := 151) (v := ?ve36) rfl (by kernel_rfl) (by kernel_rfl) (by kernel_rfl) (by kernel_rfl) (fun _ _ _ h => h) (Or.inl ⟨by kernel_rfl, ?hye36⟩) hHeld ?reste36
          case hye36 =>
            intro w hSw
            try dsimp only at hSw
            first | (go_simp; done) | (go_simp; with_reducible rfl)
          try simp only [Act.put, List.setIfInBounds_toArray, List.set_cons_zero, List.set_cons_succ]
          refine takeH (i := 44) (d := 152) (v := ?ve37) rfl (by kernel_rfl) (by kernel_rfl) (by kernel_rfl) (by kernel_rfl) (fun _ _ _ h => h) (Or.inl ⟨by kernel_rfl, ?hye37⟩) hHeld ?reste37
          case hye37 =>
            intro w hSw
            try dsimp only at hSw
            first | (go_simp; done) | (go_simp; with_reducible rfl)
          try simp only [Act.put, List.setIfInBounds_toArray, List.set_cons_zero, List.set_cons_succ]
          refine takeH (i := 45) (d := 153) (v := ?ve38) rfl (by kernel_rfl) (by kernel_rfl) (by kernel_rfl) (by kernel_rfl) (fun _ _ _ h => h) (Or.inl ⟨by kernel_rfl, ?hye38⟩) hHeld ?reste38
          case hye38 =>
            intro w hSw
            try dsimp only at hSw
            first | (go_simp; done) | (go_simp; with_reducible rfl)
          try simp only [Act.put, List.setIfInBounds_toArray, List.set_cons_zero, List.set_cons_succ]
          refine takeH (i := 46) (d := 154) (v := ?ve39) rfl (by kernel_rfl) (by kernel_rfl) (by kernel_rfl) (by kernel_rfl) (fun _ _ _ h => h) (Or.inl ⟨by kernel_rfl, ?hye39⟩) hHeld ?reste39
          case hye39 =>
            intro w hSw
            try dsimp only at hSw
            first | (go_simp; done) | (go_simp; with_reducible rfl)
          try simp only [Act.put, List.setIfInBounds_toArray, List.set_cons_zero, List.set_cons_succ]
          refine takeH (i := 47) (d := 155) (v := ?ve40) rfl (by kernel_rfl) (by kernel_rfl) (by kernel_rfl) (by kernel_rfl) (fun _ _ _ h => h) (Or.inl ⟨by kernel_rfl, ?hye40⟩) hHeld ?reste40
          case hye40 =>
            intro w hSw
            try dsimp only at hSw
            first | (go_simp; done) | (go_simp; with_reducible rfl)
          try simp only [Act.put, List.setIfInBounds_toArray, List.set_cons_zero, List.set_cons_succ]
          refine wpAnyH_ready (rs := [48]) (by kernel_rfl) (by simp) ?_
          refine AllReadyH.cons rfl (fun K hK => ?_) AllReadyH.nil
          have HH := Lib.hid hHeld
          clear hHeld
          go_simp
          refine HASK.out.mono ?_
          rintro e x8 ⟨rfl, hbt⟩
          rw [← HPRE.out, ← HPME.out] at hbt
          have HFIN := Lib.hid (HTN.out x8 hbt)
          clear hbt
          refine hK.out _ _ ?_ (fun hNew => ?_)
          · obtain ⟨-, -, -, h9⟩ := HFIN.out; exact h9
          clear hK K HH
          have hHeld := hNew
          clear hNew
          try simp only [Act.put, List.setIfInBounds_toArray, List.set_cons_zero, List.set_cons_succ]
          refine takeH (i := 49) (d := 157) (v := ?ve41) rfl (by kernel_rfl) (by kernel_rfl) (by kernel_rfl) (by kernel_rfl) (fun _ _ _ h => h) (Or.inl ⟨by kernel_rfl, ?hye41⟩) hHeld ?reste41
          case hye41 =>
            intro w hSw
            try dsimp only at hSw
            first | (go_simp; done) | (go_simp; with_reducible rfl)
          try simp only [Act.put, List.setIfInBounds_toArray, List.set_cons_zero, List.set_cons_succ]
          refine takeH (i := 50) (d := 158) (v := ?ve42) rfl (by kernel_rfl) (by kernel_rfl) (by kernel_rfl) (by kernel_rfl) (fun _ _ _ h => h) (Or.inl ⟨by kernel_rfl, ?hye42⟩) hHeld ?reste42
          case hye42 =>
            intro w hSw
            try dsimp only at hSw
            first | (go_simp; done) | (go_simp; with_reducible rfl)
          try simp only [Act.put, List.setIfInBounds_toArray, List.set_cons_zero, List.set_cons_succ]
          refine wpAnyH_done (by kernel_rfl) ?_ _
          go_wp2_with fail
          go_roundw
          case rel =>
            obtain ⟨ps', e1, h9, -⟩ := HFIN.out
            exact ⟨ps', j + 1, by go_num, by omega, e1, h9⟩
          case measure => simp [intOf]; omega
        · obtain rfl : j = ps.length := by omega
          obtain ⟨p, hp⟩ : ∃ p, qs[0]? = some p := ⟨_, List.getElem?_eq_getElem (by omega)⟩
          obtain ⟨hbo, haw, -⟩ := HSQ.out.pp.one 0 p hp
          obtain ⟨b, cc, N, hN, hcase, hcall⟩ := end9_any hbo ⟨#[107]⟩ ⟨#[118]⟩ (by unfold Fits; decide)
          have HCALL := Lib.hid hcall
          have HAW := Lib.hid haw
          have HLOW : Hid (∀ i, p.F i → w.heap.size ≤ i) := fun i hi => (hbo.lts.1 i hi).1
          have c0 : wq.cell? ⟨g, 0, none⟩ = some (.pointer (some ⟨p.r, 0, none⟩)) := (HSQ.out.at hp).1
          obtain ⟨pr, hpr⟩ : ∃ x, p.r = x := ⟨_, rfl⟩
          rw [hpr] at HCALL c0
          have q1 : (0 : Int) < (ps.length : Int) := by omega
          clear hbo haw hcall hp hpr
          go_upto_region 26 with (fail)
          go_wp2_with fail
          refine HCALL.out.mono ?_
          rintro e x1 ⟨rfl, hf1, hlen⟩
          have HF1 := Lib.hid hf1
          have HLEN := Lib.hid hlen
          have c1 : x1.cell? ⟨g, 0, none⟩ = some (.pointer (some ⟨pr, 0, none⟩)) := hf1.cell c0 (fun hF => HAW.out g rfl hF)
          have HBEL : Hid (Below w.heap.size w x1) := (HSQ.out.pp.fr.wide hf1 (fun i hi => .inr (HLOW.out i hi))).below (Nat.le_refl _) (fun _ h => h.elim)
          clear hf1 hlen c0
          rcases hcase with ⟨rfl, rfl | ⟨rfl, hpos⟩⟩ | ⟨rfl, rfl, rfl⟩
          · go_wp2_with fail
            go_ret
            exact ⟨rfl, HBEL.out⟩
          · have gp : decide ((0 : Int) < (N : Int)) = true := by rw [decide_eq_true_eq]; omega
            have gp2 : (0 : Int) < (N : Int) := by omega
            go_wp2_with fail
            refine HLEN.out.mono ?_
            rintro e w' ⟨rfl, rfl⟩
            go_wp2_with fail
            go_ret
            exact ⟨rfl, HBEL.out⟩
          · go_wp2_with fail
            refine HLEN.out.mono ?_
            rintro e w' ⟨rfl, rfl⟩
            go_wp2_with fail
            go_ret
            exact ⟨rfl, HBEL.out⟩
end Go.Proofs.Ytgomilodeaafdaa

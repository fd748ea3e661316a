/- The walk of GlobStars. -/
import Derived.Test.YthiamkfghnopgaaDoorGlobV
import Derived.Test.YthiamkfghnopgaaDoorGlobO
import Derived.Test.YthiamkfghnopgaaDoorGlobC
namespace Go.Proofs.YthiamkfghnopgaaDoor
open Go.RowKit
theorem below_drewN' {B : Nat} {w w' : World} (h : Below B w w') (m : Nat) : Below B w (w'.drewN m) :=
  ⟨h.os, h.tape, h.output, h.size, h.block⟩
set_option maxRecDepth 100000 in
set_option maxHeartbeats 4000000 in
theorem globStars_walk (w : World) (s t : ByteArray) (n : Int) (lo : -9223372036854775808 ≤ n) (hi : n ≤ 9223372036854775807) (hs : s.size ≤ 140737488351232) (ht : t.size ≤ 140737488351232) :
    Calls Tryd.prog 7 #[.string s, .string t, .int .i64 n] w fun e w' => e = .returned (.bool true) ∧ Below w.heap.size w w' := by
  go_enter Tryd.func7, Tryd.ntmps7
  go_wp2_with fail
  refine (wakes_any _).mono ?_
  rintro e w1 ⟨rfl, m1, rfl⟩
  go_upto_if 17 with (fail)
  go_cut [0] from 18 to 19 (fun a wc => wc = w.drewN m1 ∧ ∃ s' : ByteArray, s'.size ≤ 300 ∧ a = .string s')
  case first =>
    by_cases h : s.size ≤ 300
    · have g : decide (300 < s.size) = false := by simpa using h
      go_wp2
      go_meet
      case rel => exact ⟨rfl, s, h, rfl⟩
    · have g : decide (300 < s.size) = true := by simpa using h
      have g2 : (300 : Int) ≤ s.size := by omega
      go_wp2
      go_meet
      case rel => exact ⟨rfl, s.extract 0 300, by simp only [ByteArray.size_extract]; omega, rfl⟩
  case rest =>
  obtain ⟨rfl, s', hs', rfl⟩ := hcut
  go_upto_if 22 with (fail)
  go_cut [1] from 23 to 24 (fun a wc => wc = w.drewN m1 ∧ ∃ t' : ByteArray, t'.size ≤ 300 ∧ a = .string t')
  case first =>
    by_cases h : t.size ≤ 300
    · have g : decide (300 < t.size) = false := by simpa using h
      go_wp2
      go_meet
      case rel => exact ⟨rfl, t, h, rfl⟩
    · have g : decide (300 < t.size) = true := by simpa using h
      have g2 : (300 : Int) ≤ t.size := by omega
      go_wp2
      go_meet
      case rel => exact ⟨rfl, t.extract 0 300, by simp only [ByteArray.size_extract]; omega, rfl⟩
  case rest =>
  obtain ⟨rfl, t', ht', rfl⟩ := hcut
  clear hs ht
  go_upto_block 0 with (fail)
  go_cut [7, 8] from 25 to 35 (fun p i wc => wc = w.drewN m1 ∧ ∃ k : Nat, k ≤ 8 ∧ p = .string (mkS (starsP (k + 1))))
  case first =>
    go_wp2
    go_loop [7, 8] (fun p i => ∃ k : Nat, k ≤ 8 ∧ p = .string (mkS (starsP (k + 1))) ∧ i = .int .i64 k) (fun p i => 8 - (intOf i).toNat)
    case atStart => exact ⟨0, by omega, rfl, rfl⟩
    case round =>
      obtain ⟨k, hk, rfl, rfl⟩ := hrel
      have hsz : (mkS (starsP (k + 1))).size = k + 1 := by rw [mk_size]; simp [starsP]
      have hnx : mkS (starsP (k + 1)) ++ ⟨#[42]⟩ = mkS (starsP (k + 1 + 1)) := by
        rw [show (⟨#[42]⟩ : ByteArray) = mkS [42] from rfl, mk_app, starsP_snoc]
      have HN := Lib.hid hnx
      have HZ := Lib.hid hsz
      clear hsz hnx
      have s1 : (⟨#[42]⟩ : ByteArray).size = 1 := rfl
      by_cases h1 : (k : Int) < n
      · by_cases h2 : k < 8
        · have g : decide (k < 8) = true := by simpa using h2
          go_wp2_with (refine wpl_concat rfl _ _ _ _ rfl _ _ rfl rfl (by rw [HZ.out, s1]; omega) ?_)
          go_round
          case rel => exact ⟨k + 1, by omega, by rw [HN.out], by go_num⟩
          case measure => simp [intOf]; omega
        · have g : decide (k < 8) = false := by simpa using h2
          go_wp2
          go_meet
          case rel => exact ⟨rfl, k, hk, rfl⟩
      · go_wp2
        go_meet
        case rel => exact ⟨rfl, k, hk, rfl⟩
  case rest =>
  obtain ⟨rfl, k, hk, rfl⟩ := hcut
  go_upto_block 2 with (fail)
  go_cut [9, 10] from 36 to 56 (fun b i wc => wc = w.drewN m1 ∧ b = .bool (anyTail (here (bl t')) (bl s')))
  case first =>
    go_wp2
    go_loop [9, 10] (fun b i => ∃ j : Nat, j ≤ 301 ∧ b = .bool (std (bl s') (bl t') j) ∧ i = .int .i64 j) (fun b i => 301 - (intOf i).toNat)
    case atStart => exact ⟨0, by omega, rfl, rfl⟩
    case round =>
      obtain ⟨j, hj, rfl, rfl⟩ := hrel
      have hsucc := std_succ (bl s') (bl t') j
      rw [← here_slice] at hsucc
      have HS := Lib.hid hsucc
      have hend := std_end (bl s') (bl t') j
      rw [bl_len, bl_len] at hend
      have HE := Lib.hid hend
      clear hsucc hend
      obtain ⟨B, hB⟩ : ∃ B, std (bl s') (bl t') j = B := ⟨_, rfl⟩
      rw [hB] at HS HE ⊢
      clear hB
      by_cases hlt : j + t'.size ≤ s'.size
      · have hI : (j : Int) + t'.size ≤ s'.size := by omega
        cases B with
        | true =>
          go_wp2
          go_round
          case rel => exact ⟨j + 1, by omega, by rw [HS.out]; rfl, by go_num⟩
          case measure => simp [intOf]; omega
        | false =>
          go_wp2
          go_round
          case rel => exact ⟨j + 1, by omega, by rw [HS.out]; rfl, by go_num⟩
          case measure => simp [intOf]; omega
      · have hI : ¬ ((j : Int) + t'.size ≤ s'.size) := by omega
        go_wp2
        go_meet
        case rel => exact ⟨rfl, by rw [HE.out (by omega)]⟩
  case rest =>
  obtain ⟨rfl, rfl⟩ := hcut
  obtain ⟨p, hp⟩ : ∃ p, mkS (starsP (k + 1)) = p := ⟨_, rfl⟩
  obtain ⟨E, hE⟩ : ∃ E, mkS (esc (bl t')) = E := ⟨_, rfl⟩
  obtain ⟨A, hA⟩ : ∃ A, anyTail (here (bl t')) (bl s') = A := ⟨_, rfl⟩
  have hpb : bl p = starsP (k + 1) := by rw [← hp]; rfl
  have hEb : bl E = esc (bl t') := by rw [← hE]; rfl
  have hps : p.size ≤ 9 := by rw [← bl_len, hpb]; simp [starsP]; omega
  have hEs : E.size ≤ 600 := by rw [← bl_len, hEb, esc_len, bl_len]; omega
  have hpv : plainV p = .tuple #[.string ⟨#[]⟩, .bool false] := by unfold plainV; rw [hpb, plain_starsP]; rfl
  have g1 : gm p s' = true := by unfold gm; rw [hpb, m_all]
  have g2 : gm (p ++ E ++ p) s' = A := by
    unfold gm; rw [bl_app, bl_app, hpb, hEb, List.append_assoc, m_mid, hA]
  have g3 : gm (E ++ p) (t' ++ s') = true := by unfold gm; rw [bl_app, bl_app, hpb, hEb, m_front_all]
  have g4 : gm (p ++ E) (s' ++ t') = true := by unfold gm; rw [bl_app, bl_app, hpb, hEb, m_end_all]
  have HP := Lib.hid (fun w => plain_any p w (by omega))
  rw [hpv] at HP
  have HE := Lib.hid (fun w => escaped_any t' w (by omega))
  rw [hE] at HE
  have z1 : (p ++ E ++ p).size ≤ 1000 := by rw [ByteArray.size_append, ByteArray.size_append]; omega
  have z2 : (E ++ p).size ≤ 1000 := by rw [ByteArray.size_append]; omega
  have z3 : (p ++ E).size ≤ 1000 := by rw [ByteArray.size_append]; omega
  have z4 : (t' ++ s').size ≤ 1000 := by rw [ByteArray.size_append]; omega
  have z5 : (s' ++ t').size ≤ 1000 := by rw [ByteArray.size_append]; omega
  have HM1 := Lib.hid (fun w => match_lit p s' true w (by omega) (by omega) g1)
  have HM2 := Lib.hid (fun w => match_lit (p ++ E ++ p) s' A w (by omega) (by omega) g2)
  have HM3 := Lib.hid (fun w => match_lit (E ++ p) (t' ++ s') true w (by omega) (by omega) g3)
  have HM4 := Lib.hid (fun w => match_lit (p ++ E) (s' ++ t') true w (by omega) (by omega) g4)
  have gA : (A == A) = true := by cases A <;> rfl
  have HB := Lib.hid (below_drewN' (Below.refl w.heap.size w) m1)
  rw [hp, hA]
  clear hp hE hA hpb hEb hpv g1 g2 g3 g4 z1 z2 z3 z4 z5
  go_wp2_with fail
  refine (HP.out _).mono ?_
  rintro e w2 ⟨rfl, hb2⟩
  have HB2 := Lib.hid (HB.out.trans (hb2.mono HB.out.size))
  clear hb2 HB
  go_wp2_with fail
  refine (HM1.out _).mono ?_
  rintro e w3 ⟨rfl, m3, rfl⟩
  have HB3 := Lib.hid (below_drewN' HB2.out m3)
  obtain ⟨w3, hw3⟩ : ∃ w3, w2.drewN m3 = w3 := ⟨_, rfl⟩
  rw [hw3] at HB3 ⊢
  clear hw3
  go_wp2_with fail
  refine (HE.out _).mono ?_
  rintro e w4 ⟨rfl, hb4⟩
  have HB4 := Lib.hid (HB3.out.trans (hb4.mono HB3.out.size))
  clear hb4
  go_wp2_with (refine wpl_concat rfl _ _ _ _ rfl _ _ rfl rfl (by simp only [ByteArray.size_append]; omega) ?_)
  refine (HM2.out _).mono ?_
  rintro e w5 ⟨rfl, m5, rfl⟩
  have HB5 := Lib.hid (below_drewN' HB4.out m5)
  obtain ⟨w5, hw5⟩ : ∃ w5, w4.drewN m5 = w5 := ⟨_, rfl⟩
  rw [hw5] at HB5 ⊢
  clear hw5
  go_wp2_with fail
  refine (HE.out _).mono ?_
  rintro e w6 ⟨rfl, hb6⟩
  have HB6 := Lib.hid (HB5.out.trans (hb6.mono HB5.out.size))
  clear hb6
  go_wp2_with (refine wpl_concat rfl _ _ _ _ rfl _ _ rfl rfl (by simp only [ByteArray.size_append]; omega) ?_)
  refine (HM3.out _).mono ?_
  rintro e w7 ⟨rfl, m7, rfl⟩
  have HB7 := Lib.hid (below_drewN' HB6.out m7)
  obtain ⟨w7, hw7⟩ : ∃ w7, w6.drewN m7 = w7 := ⟨_, rfl⟩
  rw [hw7] at HB7 ⊢
  clear hw7
  go_wp2_with fail
  refine (HE.out _).mono ?_
  rintro e w8 ⟨rfl, hb8⟩
  have HB8 := Lib.hid (HB7.out.trans (hb8.mono HB7.out.size))
  clear hb8
  go_wp2_with (refine wpl_concat rfl _ _ _ _ rfl _ _ rfl rfl (by simp only [ByteArray.size_append]; omega) ?_)
  refine (HM4.out _).mono ?_
  rintro e w9 ⟨rfl, m9, rfl⟩
  have HB9 := Lib.hid (below_drewN' HB8.out m9)
  go_wp2_with fail
  go_ret
  exact ⟨rfl, HB9.out⟩
open Go.ChangeShapes Go.WideShapes Go.ChangeAt Go.RowKit
theorem globStars_laid (os : Os) : laidMet Tryd.prog Rows.globStarsUptoRow.laid ((laidWorld os).forCall (fun _ _ => 0) ⟨#[], #[.string ⟨#[]⟩, .string ⟨#[]⟩, .int .i64 0], []⟩).memory :=
  laidMet_of_run' 8 (by kernel_rfl) (by kernel_rfl)
theorem globStars_reads (os : Os) (H : Type) (enc : TypeId × Value → H) : DataW.whole enc Tryd.prog ((laidWorld os).forCall (fun _ _ => 0) ⟨#[], #[.string ⟨#[]⟩, .string ⟨#[]⟩, .int .i64 0], []⟩).memory Tryd.f7.params.toList Rows.globStarsSpec.vars false (#[.string ⟨#[]⟩, .string ⟨#[]⟩, .int .i64 0] : Array Value).toList 8 = some ([.lit (.string []), .lit (.string []), .lit (.int .i64 0)], [], []) := by kernel_rfl
set_option maxRecDepth 100000 in
theorem globStars_lifted (os : Os) (started : os.Started) (H : Type) (enc : TypeId × Value → H) (F : Stop.Interp) :
    ReturnsInHanded {} Tryd.checked os 7 .any ((Rows.OpenSpec.upto Rows.globStarsSpec).preRow enc Tryd.prog Tryd.f7 Rows.globStarsUptoRow.domain false Rows.globStarsUptoRow.laid) (((Rows.OpenSpec.upto Rows.globStarsSpec).at F).post enc Tryd.prog Tryd.f7 false true false false) := by
  refine returnsInHanded_of_row (C := Tryd.checked) (s := Rows.OpenSpec.upto Rows.globStarsSpec) own started (by kernel_rfl) Tryd.func7
    (witness_row_at (enc := enc) (C := Tryd.checked) false (laidWorld os) #[.string ⟨#[]⟩, .string ⟨#[]⟩, .int .i64 0] rfl (by kernel_rfl) (by kernel_rfl) (by kernel_rfl)
      (OpenSpec.preRow_of_cond 8 (globStars_reads os H enc) (by kernel_rfl) (fun k hk => by cases hk; kernel_rfl) (by kernel_rfl) (globStars_laid os))) ?_
  intro W base args ds gs before hval0 hW _ hcond hsz0 hL _ _
  have hval : ∀ (j : Nat) t v, Tryd.f7.params[j]? = some t → args[j]? = some v → Value.okWide Tryd.prog W .any base t v := hval0
  have hW' := hW
  obtain ⟨p, q, hA0, hV, rfl, hfz, hnd⟩ := hW
  have hA : DataW.TrodAll enc Tryd.prog W 0 (fun _ => true) true Tryd.f7.params.toList args.toList ds p := hA0
  rw [Tryd.params7] at hA hval
  obtain ⟨v0, vs0, d0, ds0, p0, q0, hargs, rfl, rfl, h0, r0⟩ := trodAll_cons hA
  obtain ⟨v1, vs1, d1, ds1, p1, q1, rfl, rfl, rfl, h1, r1⟩ := trodAll_cons r0
  obtain ⟨v2, vs2, d2, ds2, p2, q2, rfl, rfl, rfl, h2, r2⟩ := trodAll_cons r1
  obtain ⟨rfl, rfl, rfl⟩ := trodAll_nil r2
  obtain rfl : args = #[v0, v1, v2] := by cases args; simp_all
  obtain ⟨rfl, rfl⟩ := trodVars_none hV
  have hsz : (DataW.weightsEach Tryd.prog [9, 9, 3] [d0, d1, d2]).all (fun x => decide (x ≤ reachBytes)) = true := by
    exact hsz0
  clear hsz0
  obtain ⟨hw0, hsz0⟩ := weights_cons hsz
  obtain ⟨x0, rfl, hs0⟩ := open_strW Tryd.underlying9 (hval 0 9 v0 rfl rfl) h0 hw0
  obtain ⟨hw1, hsz1⟩ := weights_cons hsz0
  obtain ⟨x1, rfl, hs1⟩ := open_strW Tryd.underlying9 (hval 1 9 v1 rfl rfl) h1 hw1
  obtain ⟨hw2, hsz2⟩ := weights_cons hsz1
  obtain ⟨x2, rfl, lo2, hi2⟩ := open_i64 Tryd.underlying3 (hval 2 3 v2 rfl rfl) h2
  clear hA0 hval0
  refine (globStars_walk W x0 x1 x2 lo2 hi2 hs0 hs1).mono fun e W' ⟨he, bel⟩ => ?_
  subst he
  exact ⟨_, rfl, law_post laidOut Tryd.underlying4 (by kernel_rfl) rfl (by kernel_rfl) hW' rfl bel⟩

theorem globStars_said : Rows.GlobStarsUptoSaid :=
  OpenClaim.holds_of_cond 7 Tryd.f7 rfl rfl rfl rfl rfl rfl rfl ⟨rfl, rfl, rfl, rfl, rfl⟩ rfl rfl rfl rfl rfl (by kernel_rfl) Tryd.func7 (by kernel_rfl)
    (of_decide_eq_true (by kernel_rfl)) (by unfold Func.isWrapper; first | (rw [if_pos (by decide +kernel)]; kernel_rfl) | (rw [if_neg (by decide +kernel)]; exact ⟨rfl, rfl⟩))
    (fun os started H enc _ F => by rw [OpenClaim.pre_eq_preRow]; exact globStars_lifted os started H enc F)
theorem globStars_plain (f : FuncId) (fn : Func) (hf : Tryd.pinned.checked.prog.funcNamed "pantry/pantrylaw03.GlobStars" = some f) (hfn : Tryd.pinned.checked.prog.funcs[f]? = some fn) :
    false = Tryd.pinned.checked.prog.looks [] ∧ ∀ (j : Nat) t, fn.params[j]? = some t → Tryd.pinned.checked.prog.wantsStandIn t = false := by
  obtain rfl : f = 7 := Option.some.inj ((show Tryd.prog.funcNamed "pantry/pantrylaw03.GlobStars" = some 7 by kernel_rfl).symm.trans hf) |>.symm
  obtain rfl : fn = Tryd.f7 := (Option.some.inj (Tryd.func7.symm.trans hfn)).symm
  refine ⟨by kernel_rfl, fun j t ht => ?_⟩
  have hall : (Tryd.f7.params.toList.all fun t => Tryd.prog.wantsStandIn t == false) = true := by kernel_rfl
  have hm := List.all_eq_true.1 hall t (Array.mem_toList_iff.2 (Array.mem_of_getElem? ht))
  exact eq_of_beq hm
theorem globStars_card : Rows.GlobStarsUptoCardSaid :=
  Claim7.holds_tied_plain_at .later [] _ _ _ _ globStars_said (fun _ h => by cases h) (by kernel_rfl) (fun _ h => by cases h) globStarsUpto_row_tie rfl ⟨rfl, rfl⟩ (by kernel_rfl) rfl globStars_plain (by kernel_rfl)
end Go.Proofs.YthiamkfghnopgaaDoor

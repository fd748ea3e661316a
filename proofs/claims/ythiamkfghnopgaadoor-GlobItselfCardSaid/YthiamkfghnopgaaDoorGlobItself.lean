/- The walk of GlobItself, at texts of any length below 2^44. -/
import Derived.Test.YthiamkfghnopgaaDoorGlobE
import Derived.Test.YthiamkfghnopgaaDoorWrapG
import Derived.Test.YthiamkfghnopgaaDoorGlobC
namespace Go.Proofs.YthiamkfghnopgaaDoor
open Go.RowKit

theorem str_beq (a b : ByteArray) : (a.toList == b.toList) = decide (a = b) := by
  rw [Go.ByteArray.toList_eq, Go.ByteArray.toList_eq, Bool.eq_iff_iff, beq_iff_eq, decide_eq_true_eq]
  constructor
  · intro h
    cases a; cases b
    simp only [ByteArray.mk.injEq] at h ⊢
    exact Array.toList_inj.1 h
  · rintro rfl; rfl
theorem bl_eq (a b : ByteArray) : decide (bl b = bl a) = (a.toList == b.toList) := by
  rw [Go.ByteArray.toList_eq, Go.ByteArray.toList_eq, Bool.eq_iff_iff, beq_iff_eq, decide_eq_true_eq]
  exact ⟨fun h => h.symm, fun h => h.symm⟩
theorem mk_self (s : ByteArray) : mkS (bl s) = s := rfl
theorem below_drewN {w w' : World} (h : Below w.heap.size w w') (m : Nat) : Below w.heap.size w (w'.drewN m) :=
  ⟨h.os, h.tape, h.output, h.size, h.block⟩
theorem special_of (c : UInt8) (h1 : c ≠ 42) (h2 : c ≠ 63) (h3 : c ≠ 91) (h4 : c ≠ 92) : special c = false := by simp [special, h1, h2, h3, h4]
set_option maxRecDepth 100000 in
set_option maxHeartbeats 4000000 in
theorem globItself_walk (w : World) (s t : ByteArray) (hs : s.size ≤ 140737488351232) (ht : t.size ≤ 140737488355328) :
    Calls Tryd.prog 6 #[.string s, .string t] w fun e w' => e = .returned (.bool true) ∧ Below w.heap.size w w' := by
  obtain ⟨p, hp⟩ : ∃ p, mkS (esc (bl s)) = p := ⟨_, rfl⟩
  have hbp : bl p = esc (bl s) := by rw [← hp]; rfl
  have hps : p.size ≤ 281474976702464 := by rw [← hp, mk_size, esc_len, bl_len]; omega
  obtain ⟨B, hB⟩ : ∃ B, (s.toList == t.toList) = B := ⟨_, rfl⟩
  have hgs : signs (bl p) = (bl s).map one1 := by
    rw [hbp]
    have := signs_esc (bl s) []
    rw [List.append_nil, signs_nil, List.append_nil] at this
    exact this
  have hg1 : gm p s = true := by unfold gm; rw [hgs, means_text]; simp
  have hg2 : gm p t = B := by unfold gm; rw [hgs, means_text, bl_eq, hB]
  have hpl : plainV p = .tuple #[.string s, .bool true] := by unfold plainV; rw [hbp, plain_esc]; rfl
  have hend : (∀ c ∈ bl s, special c = false) → gm s t = B ∧ plainV s = .tuple #[.string s, .bool true] := by
    intro h
    refine ⟨?_, ?_⟩
    · unfold gm; rw [signs_plain _ h, means_text, bl_eq, hB]
    · unfold plainV; rw [plain_plain _ h]; rfl
  have hE := Lib.hid (escaped_any s w (by omega))
  rw [hp] at hE
  have HE := Lib.hid (fun w => escaped_any s w (by omega))
  have HP := Lib.hid (fun w => plain_any p w (by omega))
  rw [hpl] at HP
  rw [hp] at HE
  have HM1 := Lib.hid (fun w => match_lit p s true w (by omega) (by omega) hg1)
  have HM2 := Lib.hid (fun w => match_lit p t B w (by omega) (by omega) hg2)
  have HEND := Lib.hid hend
  have HPL := Lib.hid (fun w => plain_any s w (by omega))
  have HM3 := Lib.hid (fun (h : gm s t = B) w => match_lit s t B w (by omega) (by omega) h)
  have HB := Lib.hid hB
  clear hp hbp hgs hg1 hg2 hpl hend hE
  go_enter Tryd.func6, Tryd.ntmps6
  go_wp2_with fail
  refine (wakes_any _).mono ?_
  rintro e w1 ⟨rfl, m1, rfl⟩
  go_wp2_with fail
  refine (HE.out _).mono ?_
  rintro e w2 ⟨rfl, hb2⟩
  have B2 : Below w.heap.size w w2 := (below_drewN (Below.refl _ w) m1).trans hb2
  have HB2 := Lib.hid B2
  clear hb2 B2
  go_wp2_with fail
  refine (HP.out _).mono ?_
  rintro e w3 ⟨rfl, hb3⟩
  have HB3 := Lib.hid (HB2.out.trans (hb3.mono HB2.out.size))
  clear hb3 HB2
  go_wp2_with fail
  refine (HM1.out _).mono ?_
  rintro e w4 ⟨rfl, m4, rfl⟩
  go_wp2_with fail
  refine (HM2.out _).mono ?_
  rintro e w5 ⟨rfl, m5, rfl⟩
  obtain ⟨w6, hw6⟩ : ∃ w6, (w3.drewN m4).drewN m5 = w6 := ⟨_, rfl⟩
  have HB6 : Hid (Below w.heap.size w w6) := by rw [← hw6]; exact below_drewN (below_drewN HB3.out m4) m5
  rw [hw6]
  clear hw6 HB3
  go_wp2_with fail
  go_loop [8] (fun i => ∃ k : Nat, k ≤ s.size ∧ i = .int .i64 k ∧ Hid (∀ c ∈ (bl s).take k, special c = false)) (fun i => s.size - (intOf i).toNat)
  case atStart => exact ⟨0, by omega, rfl, fun c hc => by simp at hc⟩
  case round =>
    obtain ⟨k, hk, rfl, HS⟩ := hrel
    by_cases hlt : k < s.size
    · by_cases h1 : s[k] = 42
      · have g1 : (((s[k].toNat : Nat) : Int) == 42) = true := by rw [h1]; rfl
        clear h1
        go_wp2
        go_ret
        exact ⟨rfl, HB6.out⟩
      have g1 : (((s[k].toNat : Nat) : Int) == 42) = false := byte_ne _ 42 (by decide) h1
      by_cases h2 : s[k] = 63
      · have g2 : (((s[k].toNat : Nat) : Int) == 63) = true := by rw [h2]; rfl
        clear h1 h2
        go_wp2
        go_ret
        exact ⟨rfl, HB6.out⟩
      have g2 : (((s[k].toNat : Nat) : Int) == 63) = false := byte_ne _ 63 (by decide) h2
      by_cases h3 : s[k] = 91
      · have g3 : (((s[k].toNat : Nat) : Int) == 91) = true := by rw [h3]; rfl
        clear h1 h2 h3
        go_wp2
        go_ret
        exact ⟨rfl, HB6.out⟩
      have g3 : (((s[k].toNat : Nat) : Int) == 91) = false := byte_ne _ 91 (by decide) h3
      by_cases h4 : s[k] = 92
      · have g4 : (((s[k].toNat : Nat) : Int) == 92) = true := by rw [h4]; rfl
        clear h1 h2 h3 h4
        go_wp2
        go_ret
        exact ⟨rfl, HB6.out⟩
      have g4 : (((s[k].toNat : Nat) : Int) == 92) = false := byte_ne _ 92 (by decide) h4
      have hsn : ∀ c ∈ (bl s).take (k + 1), special c = false := by
        intro c hc
        rw [bl_take_snoc s k hlt] at hc
        rcases List.mem_append.1 hc with hc | hc
        · exact HS.out c hc
        · rw [List.mem_singleton.1 hc]; exact special_of _ h1 h2 h3 h4
      have HSN := Lib.hid hsn
      clear h1 h2 h3 h4 hsn
      go_wp2
      go_round
      case rel => exact ⟨k + 1, by omega, by go_num, HSN⟩
      case measure => simp [intOf]; omega
    · have hall : ∀ c ∈ bl s, special c = false := fun c hc => HS.out c (by rw [List.take_of_length_le (by rw [bl_len]; omega)]; exact hc)
      obtain ⟨q1, q2⟩ := HEND.out hall
      have HM3' := Lib.hid (HM3.out q1)
      have HPL' := HPL
      rw [q2] at HPL'
      have g1 : decide (k < s.size) = false := by simpa using hlt
      clear hall q1 q2
      go_wp2_with fail
      refine (HPL'.out _).mono ?_
      rintro e w7 ⟨rfl, hb7⟩
      have HB7 := Lib.hid (HB6.out.trans (hb7.mono HB6.out.size))
      clear hb7
      go_wp2_with fail
      refine (HM3'.out _).mono ?_
      rintro e w8 ⟨rfl, m8, rfl⟩
      go_wp2_with fail
      go_ret
      exact ⟨rfl, below_drewN HB7.out m8⟩
open Go.ChangeShapes Go.WideShapes Go.ChangeAt Go.RowKit
theorem globItself_laid (os : Os) : laidMet Tryd.prog Rows.globItselfRow.laid ((laidWorld os).forCall (fun _ _ => 0) ⟨#[], #[.string ⟨#[]⟩, .string ⟨#[]⟩], []⟩).memory :=
  laidMet_of_run' 8 (by kernel_rfl) (by kernel_rfl)
theorem globItself_reads (os : Os) (H : Type) (enc : TypeId × Value → H) : DataW.whole enc Tryd.prog ((laidWorld os).forCall (fun _ _ => 0) ⟨#[], #[.string ⟨#[]⟩, .string ⟨#[]⟩], []⟩).memory Tryd.f6.params.toList Rows.globItselfSpec.vars false (#[.string ⟨#[]⟩, .string ⟨#[]⟩] : Array Value).toList 8 = some ([.lit (.string []), .lit (.string [])], [], []) := by kernel_rfl
set_option maxRecDepth 100000 in
theorem globItself_lifted (os : Os) (started : os.Started) (H : Type) (enc : TypeId × Value → H) (F : Stop.Interp) :
    ReturnsInHanded {} Tryd.checked os 6 .any ((OpenSpec.ofChange Rows.globItselfSpec).preRow enc Tryd.prog Tryd.f6 Rows.globItselfRow.domain false Rows.globItselfRow.laid) (((OpenSpec.ofChange Rows.globItselfSpec).at F).post enc Tryd.prog Tryd.f6 false true false false) := by
  refine returnsInHanded_of_row (C := Tryd.checked) (s := OpenSpec.ofChange Rows.globItselfSpec) own started (by kernel_rfl) Tryd.func6
    (witness_row_at (enc := enc) (C := Tryd.checked) false (laidWorld os) #[.string ⟨#[]⟩, .string ⟨#[]⟩] rfl (by kernel_rfl) (by kernel_rfl) (by kernel_rfl)
      (OpenSpec.preRow_of_cond 8 (globItself_reads os H enc) (by kernel_rfl) (fun k hk => by cases hk) (by kernel_rfl) (globItself_laid os))) ?_
  intro W base args ds gs before hval0 hW _ hcond hsz0 hL _ _
  have hval : ∀ (j : Nat) t v, Tryd.f6.params[j]? = some t → args[j]? = some v → Value.okWide Tryd.prog W .any base t v := hval0
  have hW' := hW
  obtain ⟨p, q, hA0, hV, rfl, hfz, hnd⟩ := hW
  have hA : DataW.TrodAll enc Tryd.prog W 0 (fun _ => true) true Tryd.f6.params.toList args.toList ds p := hA0
  rw [Tryd.params6] at hA hval
  obtain ⟨v0, vs0, d0, ds0, p0, q0, hargs, rfl, rfl, h0, r0⟩ := trodAll_cons hA
  obtain ⟨v1, vs1, d1, ds1, p1, q1, rfl, rfl, rfl, h1, r1⟩ := trodAll_cons r0
  obtain ⟨rfl, rfl, rfl⟩ := trodAll_nil r1
  obtain rfl : args = #[v0, v1] := by cases args; simp_all
  obtain ⟨rfl, rfl⟩ := trodVars_none hV
  have hsz : (DataW.weightsEach Tryd.prog [9, 9] [d0, d1]).all (fun x => decide (x ≤ reachBytes)) = true := by
    exact hsz0
  clear hsz0
  obtain ⟨hw0, hsz0⟩ := weights_cons hsz
  obtain ⟨x0, rfl, hs0⟩ := open_strW Tryd.underlying9 (hval 0 9 v0 rfl rfl) h0 hw0
  obtain ⟨hw1, hsz1⟩ := weights_cons hsz0
  obtain ⟨x1, rfl, hs1⟩ := open_strW Tryd.underlying9 (hval 1 9 v1 rfl rfl) h1 hw1
  clear hA0 hval0
  refine (globItself_walk W x0 x1 hs0 (by omega)).mono fun e W' ⟨he, bel⟩ => ?_
  subst he
  exact ⟨_, rfl, law_post laidOut Tryd.underlying4 (by kernel_rfl) rfl (by kernel_rfl) hW' rfl bel⟩

theorem globItself_said : Rows.GlobItselfSaid :=
  OpenClaim.holds_of_cond 6 Tryd.f6 rfl rfl rfl rfl rfl rfl rfl ⟨rfl, rfl, rfl, rfl, rfl⟩ rfl rfl rfl rfl rfl (by kernel_rfl) Tryd.func6 (by kernel_rfl)
    (of_decide_eq_true (by kernel_rfl)) (by unfold Func.isWrapper; first | (rw [if_pos (by decide +kernel)]; kernel_rfl) | (rw [if_neg (by decide +kernel)]; exact ⟨rfl, rfl⟩))
    (fun os started H enc _ F => by rw [OpenClaim.pre_eq_preRow]; exact globItself_lifted os started H enc F)
theorem globItself_plain (f : FuncId) (fn : Func) (hf : Tryd.pinned.checked.prog.funcNamed "pantry/pantrylaw03.GlobItself" = some f) (hfn : Tryd.pinned.checked.prog.funcs[f]? = some fn) :
    false = Tryd.pinned.checked.prog.looks [] ∧ ∀ (j : Nat) t, fn.params[j]? = some t → Tryd.pinned.checked.prog.wantsStandIn t = false := by
  obtain rfl : f = 6 := Option.some.inj ((show Tryd.prog.funcNamed "pantry/pantrylaw03.GlobItself" = some 6 by kernel_rfl).symm.trans hf) |>.symm
  obtain rfl : fn = Tryd.f6 := (Option.some.inj (Tryd.func6.symm.trans hfn)).symm
  refine ⟨by kernel_rfl, fun j t ht => ?_⟩
  have hall : (Tryd.f6.params.toList.all fun t => Tryd.prog.wantsStandIn t == false) = true := by kernel_rfl
  have hm := List.all_eq_true.1 hall t (Array.mem_toList_iff.2 (Array.mem_of_getElem? ht))
  exact eq_of_beq hm
theorem globItself_card : Rows.GlobItselfCardSaid :=
  Claim7.holds_tied_plain_at .later [] _ _ _ _ globItself_said (fun _ h => by cases h) (by kernel_rfl) (fun _ h => by cases h) globItself_row_tie rfl ⟨rfl, rfl⟩ (by kernel_rfl) rfl globItself_plain (by kernel_rfl)
end Go.Proofs.YthiamkfghnopgaaDoor

/- GlobMatches: the program's Match and the document's answer, every pattern and name; the second form (Upto). -/
import Derived.Test.YthiamkfghnopgaaDoorGlobU
import Derived.Test.YthiamkfghnopgaaDoorGlobE
import Derived.Test.YthiamkfghnopgaaDoorGlobC
namespace Go.Proofs.YthiamkfghnopgaaDoor
open Go.ChangeShapes Go.WideShapes Go.ChangeAt Go.RowKit
theorem bulk_part {H : Type} {d : DataW H} {l : List (DataW H)} (h : d ∈ l) : Rows.uptoBulk d ≤ Rows.uptoBulkAll l := by
  induction l with
  | nil => cases h
  | cons x r ih =>
    simp only [Rows.uptoBulkAll]
    cases List.mem_cons.1 h with
    | inl e => subst e; omega
    | inr e => have := ih e; omega
section
variable {H : Type} {enc : TypeId × Value → H} {P : Program} {w : World} {base : Nat} {spare : Nat → Bool} {held : Bool} {t : TypeId} {v : Value} {d : DataW H} {p : List MemPlace} {r : Reach} {b0 N : Nat}
theorem open_strB (ht : P.underlying t = some .string) (hv : Value.okWide P w r b0 t v) (h : DataW.Trod enc P w base spare held t v d p)
    (hb : Rows.uptoBulk d ≤ N) : ∃ s, v = .string s ∧ s.size ≤ N := by
  obtain ⟨s, rfl, rfl, _, hs⟩ := Go.ChangeMaps.open_string ht hv h
  refine ⟨s, rfl, ?_⟩
  simp only [Rows.uptoBulk] at hb
  have e : s.data.toList.length = s.size := by simp
  omega
end
set_option maxRecDepth 100000 in
set_option maxHeartbeats 1000000 in
theorem globMatches_walk (w : World) (p : ByteArray) (hp : p.size ≤ 1048576) (s : ByteArray) (hs : s.size ≤ 1048576) :
    Calls Tryd.prog 3 #[.string p, .string s] w fun e w' => e = .returned (.bool true) ∧ Below w.heap.size w w' := by
  have HM := Lib.hid (fun w => match_lit p s (gm p s) w (by omega) (by omega) rfl)
  have HR := Lib.hid (fun w => match_ref p s w (by omega) (by omega))
  have e : gm p s = means (signs (bl p)) (bl s) := rfl
  obtain ⟨b, hb⟩ : ∃ b, gm p s = b := ⟨_, rfl⟩
  rw [← e, hb] at HR
  rw [hb] at HM
  clear e hb
  go_enter Tryd.func3, Tryd.ntmps3
  go_wp2_with fail
  refine (HM.out _).mono ?_
  rintro e w1 ⟨rfl, m1, rfl⟩
  go_wp2_with fail
  refine (HR.out _).mono ?_
  rintro e w2 ⟨rfl, hb2⟩
  have HB2 := Lib.hid hb2
  clear hb2
  have gb : (b == b) = true := by cases b <;> rfl
  go_wp2_with fail
  refine (match_lit _ _ true _ (by decide) (by decide) (by decide +kernel)).mono ?_
  rintro e w3 ⟨rfl, m3, rfl⟩
  go_wp2_with fail
  refine (match_lit _ _ false _ (by decide) (by decide) (by decide +kernel)).mono ?_
  rintro e w4 ⟨rfl, m4, rfl⟩
  go_wp2_with fail
  go_ret
  refine ⟨rfl, ?_⟩
  have h1 := HB2.out
  exact ⟨h1.os, h1.tape, h1.output, h1.size, h1.block⟩
theorem globMatches_laid (os : Os) : laidMet Tryd.prog Rows.globMatchesUptoRow.laid ((laidWorld os).forCall (fun _ _ => 0) ⟨#[], #[.string ⟨#[]⟩, .string ⟨#[]⟩], []⟩).memory :=
  laidMet_of_run' 8 (by kernel_rfl) (by kernel_rfl)
theorem globMatches_reads (os : Os) (H : Type) (enc : TypeId × Value → H) : DataW.whole enc Tryd.prog ((laidWorld os).forCall (fun _ _ => 0) ⟨#[], #[.string ⟨#[]⟩, .string ⟨#[]⟩], []⟩).memory Tryd.f3.params.toList Rows.globMatchesSpec.vars false (#[.string ⟨#[]⟩, .string ⟨#[]⟩] : Array Value).toList 8 = some ([.lit (.string []), .lit (.string [])], [], []) := by kernel_rfl
set_option maxRecDepth 100000 in
theorem globMatches_lifted (os : Os) (started : os.Started) (H : Type) (enc : TypeId × Value → H) (F : Stop.Interp) :
    ReturnsInHanded {} Tryd.checked os 3 .any ((Rows.OpenSpec.upto Rows.globMatchesSpec).preRow enc Tryd.prog Tryd.f3 Rows.globMatchesUptoRow.domain false Rows.globMatchesUptoRow.laid) (((Rows.OpenSpec.upto Rows.globMatchesSpec).at F).post enc Tryd.prog Tryd.f3 false true false false) := by
  refine returnsInHanded_of_row (C := Tryd.checked) (s := Rows.OpenSpec.upto Rows.globMatchesSpec) own started (by kernel_rfl) Tryd.func3
    (witness_row_at (enc := enc) (C := Tryd.checked) false (laidWorld os) #[.string ⟨#[]⟩, .string ⟨#[]⟩] rfl (by kernel_rfl) (by kernel_rfl) (by kernel_rfl)
      (OpenSpec.preRow_of_cond 8 (globMatches_reads os H enc) (by kernel_rfl) (fun k hk => by cases hk; kernel_rfl) (by kernel_rfl) (globMatches_laid os))) ?_
  intro W base args ds gs before hval0 hW _ hcond hsz0 hL _ _
  have hval : ∀ (j : Nat) t v, Tryd.f3.params[j]? = some t → args[j]? = some v → Value.okWide Tryd.prog W .any base t v := hval0
  have hW' := hW
  obtain ⟨p, q, hA0, hV, rfl, hfz, hnd⟩ := hW
  have hA : DataW.TrodAll enc Tryd.prog W 0 (fun _ => true) true Tryd.f3.params.toList args.toList ds p := hA0
  rw [Tryd.params3] at hA hval
  obtain ⟨v0, vs0, d0, ds0, p0, q0, hargs, rfl, rfl, h0, r0⟩ := trodAll_cons hA
  obtain ⟨v1, vs1, d1, ds1, p1, q1, rfl, rfl, rfl, h1, r1⟩ := trodAll_cons r0
  obtain ⟨rfl, rfl, rfl⟩ := trodAll_nil r1
  obtain rfl : args = #[v0, v1] := by cases args; simp_all
  obtain ⟨rfl, rfl⟩ := trodVars_none hV
  have hsz : (DataW.weightsEach Tryd.prog [9, 9] [d0, d1]).all (fun x => decide (x ≤ reachBytes)) = true := by
    exact hsz0
  clear hsz0
  have hsm : Rows.uptoSmall H ([d0, d1] ++ []) = true := hcond _ rfl
  have hbk : Rows.uptoBulkAll [d0, d1] ≤ 1048576 := by
    simp only [Rows.uptoSmall, decide_eq_true_eq, List.append_nil] at hsm
    exact hsm
  have hbk0 : Rows.uptoBulk d0 ≤ 1048576 := Nat.le_trans (bulk_part (l := [d0, d1]) (by simp)) hbk
  have hbk1 : Rows.uptoBulk d1 ≤ 1048576 := Nat.le_trans (bulk_part (l := [d0, d1]) (by simp)) hbk
  obtain ⟨hw0, hsz0⟩ := weights_cons hsz
  obtain ⟨x0, rfl, hs0⟩ := open_strB Tryd.underlying9 (hval 0 9 v0 rfl rfl) h0 (hbk0)
  obtain ⟨hw1, hsz1⟩ := weights_cons hsz0
  obtain ⟨x1, rfl, hs1⟩ := open_strB Tryd.underlying9 (hval 1 9 v1 rfl rfl) h1 (hbk1)
  clear hA0 hval0
  refine (globMatches_walk W x0 hs0 x1 hs1).mono fun e W' ⟨he, bel⟩ => ?_
  subst he
  exact ⟨_, rfl, law_post laidOut Tryd.underlying4 (by kernel_rfl) rfl (by kernel_rfl) hW' rfl bel⟩

theorem globMatches_said : Rows.GlobMatchesUptoSaid :=
  OpenClaim.holds_of_cond 3 Tryd.f3 rfl rfl rfl rfl rfl rfl rfl ⟨rfl, rfl, rfl, rfl, rfl⟩ rfl rfl rfl rfl rfl (by kernel_rfl) Tryd.func3 (by kernel_rfl)
    (of_decide_eq_true (by kernel_rfl)) (by unfold Func.isWrapper; first | (rw [if_pos (by decide +kernel)]; kernel_rfl) | (rw [if_neg (by decide +kernel)]; exact ⟨rfl, rfl⟩))
    (fun os started H enc _ F => by rw [OpenClaim.pre_eq_preRow]; exact globMatches_lifted os started H enc F)
theorem globMatches_plain (f : FuncId) (fn : Func) (hf : Tryd.pinned.checked.prog.funcNamed "pantry/pantrylaw03.GlobMatches" = some f) (hfn : Tryd.pinned.checked.prog.funcs[f]? = some fn) :
    false = Tryd.pinned.checked.prog.looks [] ∧ ∀ (j : Nat) t, fn.params[j]? = some t → Tryd.pinned.checked.prog.wantsStandIn t = false := by
  obtain rfl : f = 3 := Option.some.inj ((show Tryd.prog.funcNamed "pantry/pantrylaw03.GlobMatches" = some 3 by kernel_rfl).symm.trans hf) |>.symm
  obtain rfl : fn = Tryd.f3 := (Option.some.inj (Tryd.func3.symm.trans hfn)).symm
  refine ⟨by kernel_rfl, fun j t ht => ?_⟩
  have hall : (Tryd.f3.params.toList.all fun t => Tryd.prog.wantsStandIn t == false) = true := by kernel_rfl
  have hm := List.all_eq_true.1 hall t (Array.mem_toList_iff.2 (Array.mem_of_getElem? ht))
  exact eq_of_beq hm
theorem globMatches_card : Rows.GlobMatchesUptoCardSaid :=
  Claim7.holds_tied_plain_at .later [] _ _ _ _ globMatches_said (fun _ h => by cases h) (by kernel_rfl) (fun _ h => by cases h) globMatchesUpto_row_tie rfl ⟨rfl, rfl⟩ (by kernel_rfl) rfl globMatches_plain (by kernel_rfl)
end Go.Proofs.YthiamkfghnopgaaDoor

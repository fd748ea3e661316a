/- HubTells's card, of the walk. No condition. -/
import Derived.Test.YtleoeccjnchclaaDoorHubTells
import Derived.Test.YtleoeccjnchclaaDoorGlobC
namespace Go.Proofs.YtleoeccjnchclaaDoor
open Go.ChangeShapes Go.WideShapes Go.ChangeAt Go.RowKit
theorem hubTells_laid (os : Os) : laidMet Tryd.prog Rows.hubTellsRow.laid ((laidWorld os).forCall (fun _ _ => 0) ⟨#[], #[.slice none 0 0, .string ⟨#[]⟩, .string ⟨#[]⟩], []⟩).memory :=
  laidMet_of_run' 8 (by kernel_rfl) (by kernel_rfl)
theorem hubTells_reads (os : Os) (H : Type) (enc : TypeId × Value → H) : DataW.whole enc Tryd.prog ((laidWorld os).forCall (fun _ _ => 0) ⟨#[], #[.slice none 0 0, .string ⟨#[]⟩, .string ⟨#[]⟩], []⟩).memory Tryd.f4.params.toList Rows.hubTellsSpec.vars false (#[.slice none 0 0, .string ⟨#[]⟩, .string ⟨#[]⟩] : Array Value).toList 8 = some ([.nil, .lit (.string []), .lit (.string [])], [], []) := by kernel_rfl
set_option maxRecDepth 100000 in
set_option maxHeartbeats 4000000 in
theorem hubTells_lifted (os : Os) (started : os.Started) (H : Type) (enc : TypeId × Value → H) (F : Stop.Interp) :
    ReturnsInHanded {} Tryd.checked os 4 .any ((OpenSpec.ofChange Rows.hubTellsSpec).preRow enc Tryd.prog Tryd.f4 Rows.hubTellsRow.domain false Rows.hubTellsRow.laid) (((OpenSpec.ofChange Rows.hubTellsSpec).at F).post enc Tryd.prog Tryd.f4 false true false false) := by
  refine returnsInHanded_of_row (C := Tryd.checked) (s := OpenSpec.ofChange Rows.hubTellsSpec) own started (by kernel_rfl) Tryd.func4
    (witness_row_at (enc := enc) (C := Tryd.checked) false (laidWorld os) #[.slice none 0 0, .string ⟨#[]⟩, .string ⟨#[]⟩] rfl (by kernel_rfl) (by kernel_rfl) (by kernel_rfl)
      (OpenSpec.preRow_of_cond 8 (hubTells_reads os H enc) (by kernel_rfl) (fun k hk => by cases hk) (by kernel_rfl) (hubTells_laid os))) ?_
  intro W base args ds gs before hval0 hW _ hcond hsz0 hL _ _
  have hval : ∀ (j : Nat) t v, Tryd.f4.params[j]? = some t → args[j]? = some v → Value.okWide Tryd.prog W .any base t v := hval0
  have hW' := hW
  obtain ⟨p, q, hA0, hV, rfl, hfz, hnd⟩ := hW
  have hA : DataW.TrodAll enc Tryd.prog W 0 (fun _ => true) true Tryd.f4.params.toList args.toList ds p := hA0
  rw [Tryd.params4] at hA hval
  obtain ⟨v0, vs0, d0, ds0, p0, q0, hargs, rfl, rfl, h0, r0⟩ := trodAll_cons hA
  obtain ⟨v1, vs1, d1, ds1, p1, q1, rfl, rfl, rfl, h1, r1⟩ := trodAll_cons r0
  obtain ⟨v2, vs2, d2, ds2, p2, q2, rfl, rfl, rfl, h2, r2⟩ := trodAll_cons r1
  obtain ⟨rfl, rfl, rfl⟩ := trodAll_nil r2
  obtain rfl : args = #[v0, v1, v2] := by cases args; simp_all
  obtain ⟨rfl, rfl⟩ := trodVars_none hV
  have hsz : (DataW.weightsEach Tryd.prog [22, 9, 9] [d0, d1, d2]).all (fun x => decide (x ≤ reachBytes)) = true := by
    exact hsz0
  clear hsz0
  obtain ⟨hw0, hsz0⟩ := weights_cons hsz
  obtain ⟨l0, hr0, hb0⟩ := open_list sob sob_len Tryd.underlying22 (by kernel_rfl) so_read (hval 0 22 v0 rfl rfl) h0
  have hby0 : l0.length * 64 ≤ reachBytes := by
    have e : Tryd.prog.bytesOf 27 = 64 := by kernel_rfl
    rw [← e]; exact hb0 _ hw0
  obtain ⟨hw1, hsz1⟩ := weights_cons hsz0
  obtain ⟨x1, rfl, hs1⟩ := open_strW Tryd.underlying9 (hval 1 9 v1 rfl rfl) h1 hw1
  obtain ⟨hw2, hsz2⟩ := weights_cons hsz1
  obtain ⟨x2, rfl, hs2⟩ := open_strW Tryd.underlying9 (hval 2 9 v2 rfl rfl) h2 hw2
  clear hA0 hval0
  refine (hubTells_walk W v0 l0 hr0 hby0 x1 x2 hs1 hs2).mono fun e W' ⟨he, bel⟩ => ?_
  subst he
  exact ⟨_, rfl, law_post laidOut Tryd.underlying4 (by kernel_rfl) rfl (by kernel_rfl) hW' rfl bel⟩

theorem hubTells_said : Rows.HubTellsSaid :=
  OpenClaim.holds_of_cond 4 Tryd.f4 rfl rfl rfl rfl rfl rfl rfl ⟨rfl, rfl, rfl, rfl, rfl⟩ rfl rfl rfl rfl rfl (by kernel_rfl) Tryd.func4 (by kernel_rfl)
    (of_decide_eq_true (by kernel_rfl)) (by unfold Func.isWrapper; first | (rw [if_pos (by decide +kernel)]; kernel_rfl) | (rw [if_neg (by decide +kernel)]; exact ⟨rfl, rfl⟩))
    (fun os started H enc _ F => by rw [OpenClaim.pre_eq_preRow]; exact hubTells_lifted os started H enc F)

theorem hubTells_plain (f : FuncId) (fn : Func) (hf : Tryd.pinned.checked.prog.funcNamed "pantry/pantrylaw25.HubTells" = some f) (hfn : Tryd.pinned.checked.prog.funcs[f]? = some fn) :
    false = Tryd.pinned.checked.prog.looks [] ∧ ∀ (j : Nat) t, fn.params[j]? = some t → Tryd.pinned.checked.prog.wantsStandIn t = false := by
  obtain rfl : f = 4 := Option.some.inj ((show Tryd.prog.funcNamed "pantry/pantrylaw25.HubTells" = some 4 by kernel_rfl).symm.trans hf) |>.symm
  obtain rfl : fn = Tryd.f4 := (Option.some.inj (Tryd.func4.symm.trans hfn)).symm
  refine ⟨by kernel_rfl, fun j t ht => ?_⟩
  have hall : (Tryd.f4.params.toList.all fun t => Tryd.prog.wantsStandIn t == false) = true := by kernel_rfl
  have hm := List.all_eq_true.1 hall t (Array.mem_toList_iff.2 (Array.mem_of_getElem? ht))
  exact eq_of_beq hm
theorem hubTells_card : Rows.HubTellsCardSaid :=
  Claim7.holds_tied_plain_at .later [] _ _ _ _ hubTells_said (fun _ h => by cases h) (by kernel_rfl) (fun _ h => by cases h) hubTells_row_tie rfl ⟨rfl, rfl⟩ (by kernel_rfl) rfl hubTells_plain (by kernel_rfl)
end Go.Proofs.YtleoeccjnchclaaDoor

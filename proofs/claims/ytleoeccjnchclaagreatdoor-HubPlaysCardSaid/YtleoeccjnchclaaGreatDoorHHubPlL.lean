/- HubPlays's card, of the walk. No condition. -/
import Derived.Test.YtleoeccjnchclaaGreatDoorZbl
import Derived.Test.YtleoeccjnchclaaGreatDoorZan
import Derived.Test.YtleoeccjnchclaaGreatDoorZas
namespace Go.Proofs.YtleoeccjnchclaaGreatDoor
open Go.ChangeShapes Go.WideShapes Go.ChangeAt Go.RowKit
theorem hubPlays_laid (os : Os) : laidMet Tryz.prog Rows.hubPlaysRow.laid ((laidWorld os).forCall (fun _ _ => 0) ⟨#[], #[.slice none 0 0], []⟩).memory :=
  laidMet_of_run' 8 (by kernel_rfl) (by kernel_rfl)
theorem hubPlays_reads (os : Os) (H : Type) (enc : TypeId × Value → H) : DataW.whole enc Tryz.prog ((laidWorld os).forCall (fun _ _ => 0) ⟨#[], #[.slice none 0 0], []⟩).memory Tryz.f3.params.toList Rows.hubPlaysSpec.vars false (#[.slice none 0 0] : Array Value).toList 8 = some ([.nil], [], []) := by kernel_rfl
set_option maxRecDepth 100000 in
set_option maxHeartbeats 4000000 in
theorem hubPlays_lifted (os : Os) (started : os.Started) (H : Type) (enc : TypeId × Value → H) (F : Stop.Interp) :
    ReturnsInHanded {} Tryz.checked os 3 .any ((OpenSpec.ofChange Rows.hubPlaysSpec).preRow enc Tryz.prog Tryz.f3 Rows.hubPlaysRow.domain false Rows.hubPlaysRow.laid) (((OpenSpec.ofChange Rows.hubPlaysSpec).at F).post enc Tryz.prog Tryz.f3 false true false false) := by
  refine returnsInHanded_of_row (C := Tryz.checked) (s := OpenSpec.ofChange Rows.hubPlaysSpec) own started (by kernel_rfl) Tryz.func3
    (witness_row_at (enc := enc) (C := Tryz.checked) false (laidWorld os) #[.slice none 0 0] rfl (by kernel_rfl) (by kernel_rfl) (by kernel_rfl)
      (OpenSpec.preRow_of_cond 8 (hubPlays_reads os H enc) (by kernel_rfl) (fun k hk => by cases hk) (by kernel_rfl) (hubPlays_laid os))) ?_
  intro W base args ds gs before hval0 hW _ hcond hsz0 hL _ _
  have hval : ∀ (j : Nat) t v, Tryz.f3.params[j]? = some t → args[j]? = some v → Value.okWide Tryz.prog W .any base t v := hval0
  have hW' := hW
  obtain ⟨p, q, hA0, hV, rfl, hfz, hnd⟩ := hW
  have hA : DataW.TrodAll enc Tryz.prog W 0 (fun _ => true) true Tryz.f3.params.toList args.toList ds p := hA0
  rw [Tryz.params3] at hA hval
  obtain ⟨v0, vs0, d0, ds0, p0, q0, hargs, rfl, rfl, h0, r0⟩ := trodAll_cons hA
  obtain ⟨rfl, rfl, rfl⟩ := trodAll_nil r0
  obtain rfl : args = #[v0] := by cases args; simp_all
  obtain ⟨rfl, rfl⟩ := trodVars_none hV
  have hsz : (DataW.weightsEach Tryz.prog [22] [d0]).all (fun x => decide (x ≤ reachBytes)) = true := by
    exact hsz0
  clear hsz0
  obtain ⟨hw0, hsz0⟩ := weights_cons hsz
  obtain ⟨l0, hr0, hb0⟩ := open_listW sob OpW sob_len Tryz.underlying22 (by kernel_rfl) so_readW (hval 0 22 v0 rfl rfl) h0
  have hby0 : l0.length * 64 ≤ reachBytes := by
    have e : Tryz.prog.bytesOf 28 = 64 := by kernel_rfl
    rw [← e]; exact (hb0 _ hw0).1
  have hmz : ∀ x ∈ l0, x.1.key.size ≤ 140737488351232 := fun x hx => by
    obtain ⟨d', q1, q2⟩ := (hb0 reachBytes hw0).2 x hx
    have h2 := q1 reachBytes q2
    unfold reachBytes at h2
    omega
  clear hA0 hval0
  refine (hubPlays_walk W v0 l0 hr0 hby0 hmz).mono fun e W' ⟨he, bel⟩ => ?_
  subst he
  exact ⟨_, rfl, law_post laidOut Tryz.underlying4 (by kernel_rfl) rfl (by kernel_rfl) hW' rfl bel⟩

theorem hubPlays_said : Rows.HubPlaysSaid :=
  OpenClaim.holds_of_cond 3 Tryz.f3 rfl rfl rfl rfl rfl rfl rfl ⟨rfl, rfl, rfl, rfl, rfl⟩ rfl rfl rfl rfl rfl (by kernel_rfl) Tryz.func3 (by kernel_rfl)
    (of_decide_eq_true (by kernel_rfl)) (by unfold Func.isWrapper; first | (rw [if_pos (by decide +kernel)]; kernel_rfl) | (rw [if_neg (by decide +kernel)]; exact ⟨rfl, rfl⟩))
    (fun os started H enc _ F => by rw [OpenClaim.pre_eq_preRow]; exact hubPlays_lifted os started H enc F)

theorem hubPlays_plain (f : FuncId) (fn : Func) (hf : Tryz.pinned.checked.prog.funcNamed "pantry/pantrylaw25.HubPlays" = some f) (hfn : Tryz.pinned.checked.prog.funcs[f]? = some fn) :
    false = Tryz.pinned.checked.prog.looks [] ∧ ∀ (j : Nat) t, fn.params[j]? = some t → Tryz.pinned.checked.prog.wantsStandIn t = false := by
  obtain rfl : f = 3 := Option.some.inj ((show Tryz.prog.funcNamed "pantry/pantrylaw25.HubPlays" = some 3 by kernel_rfl).symm.trans hf) |>.symm
  obtain rfl : fn = Tryz.f3 := (Option.some.inj (Tryz.func3.symm.trans hfn)).symm
  refine ⟨by kernel_rfl, fun j t ht => ?_⟩
  have hall : (Tryz.f3.params.toList.all fun t => Tryz.prog.wantsStandIn t == false) = true := by kernel_rfl
  have hm := List.all_eq_true.1 hall t (Array.mem_toList_iff.2 (Array.mem_of_getElem? ht))
  exact eq_of_beq hm
theorem hubPlays_card : Rows.HubPlaysCardSaid :=
  Claim7.holds_tied_plain_at .later [] _ _ _ _ hubPlays_said (fun _ h => by cases h) (by kernel_rfl) (fun _ h => by cases h) hubPlays_row_tie rfl ⟨rfl, rfl⟩ (by kernel_rfl) rfl hubPlays_plain (by kernel_rfl)
end Go.Proofs.YtleoeccjnchclaaGreatDoor

/- FlockSets (as far as its bound): Union, Inter and Diff of any flocks answer as the document does. No condition. -/
import Derived.Test.YtgomilodeaafdaaCi
import Derived.Test.YtgomilodeaafdaaBa
import Derived.Test.YtgomilodeaafdaaBk
namespace Go.Proofs.Ytgomilodeaafdaa
open Go.ChangeShapes Go.WideShapes Go.ChangeAt Go.RowKit
open Go.ChangeMaps (open_string shut_string)
theorem bool_flat (l : List Bool) : l.flatMap (fun b => [Value.bool b]) = l.map .bool := by
  induction l with
  | nil => rfl
  | cons x l ih => rw [List.flatMap_cons, ih]; rfl
theorem bool_read {H : Type} {enc : TypeId × Value → H} {w : World} {base : Nat} {held : Bool} (n : Nat) (l : List Value) (y : DataW H × List MemPlace) (h : DataW.trod enc Try.prog w base (fun _ => true) held n 4 l = some y) : ∃ b : Bool, l = [.bool b] := by
  obtain ⟨x1, g1, _⟩ := DataW.trod_bool Try.underlying4 h
  exact ⟨x1, g1⟩
theorem flockSets_laid (os : Os) : laidMet Try.prog Rows.flockSetsUptoRow.laid ((laidWorld os).forCall (fun _ _ => 0) ⟨#[], #[.slice none 0 0, .slice none 0 0], []⟩).memory :=
  laidMet_of_run' 8 (by kernel_rfl) (by kernel_rfl)
theorem flockSets_reads (os : Os) (H : Type) (enc : TypeId × Value → H) : DataW.whole enc Try.prog ((laidWorld os).forCall (fun _ _ => 0) ⟨#[], #[.slice none 0 0, .slice none 0 0], []⟩).memory Try.f8.params.toList Rows.flockSetsSpec.vars false (#[.slice none 0 0, .slice none 0 0] : Array Value).toList 8 = some ([.nil, .nil], [], []) := by kernel_rfl
set_option maxRecDepth 100000 in
theorem flockSets_lifted (os : Os) (started : os.Started) (H : Type) (enc : TypeId × Value → H) (F : Stop.Interp) :
    ReturnsInHanded {} Try.checked os 8 .any ((Rows.OpenSpec.upto Rows.flockSetsSpec).preRow enc Try.prog Try.f8 Rows.flockSetsUptoRow.domain false Rows.flockSetsUptoRow.laid) (((Rows.OpenSpec.upto Rows.flockSetsSpec).at F).post enc Try.prog Try.f8 false true false false) := by
  refine returnsInHanded_of_row (C := Try.checked) (s := Rows.OpenSpec.upto Rows.flockSetsSpec) own started (by kernel_rfl) Try.func8
    (witness_row_at (enc := enc) (C := Try.checked) false (laidWorld os) #[.slice none 0 0, .slice none 0 0] rfl (by kernel_rfl) (by kernel_rfl) (by kernel_rfl)
      (OpenSpec.preRow_of_cond 8 (flockSets_reads os H enc) (by kernel_rfl) (fun k hk => by cases hk; kernel_rfl) (by kernel_rfl) (flockSets_laid os))) ?_
  intro W base args ds gs before hval0 hW _ hcond hsz0 hL _ _
  have hval : ∀ (j : Nat) t v, Try.f8.params[j]? = some t → args[j]? = some v → Value.okWide Try.prog W .any base t v := hval0
  have hW' := hW
  obtain ⟨p, q, hA0, hV, rfl, hfz, hnd⟩ := hW
  have hA : DataW.TrodAll enc Try.prog W 0 (fun _ => true) true Try.f8.params.toList args.toList ds p := hA0
  rw [Try.params8] at hA hval
  obtain ⟨v0, vs0, d0, ds0, p0, q0, hargs, rfl, rfl, h0, r0⟩ := trodAll_cons hA
  obtain ⟨v1, vs1, d1, ds1, p1, q1, rfl, rfl, rfl, h1, r1⟩ := trodAll_cons r0
  obtain ⟨rfl, rfl, rfl⟩ := trodAll_nil r1
  obtain rfl : args = #[v0, v1] := by cases args; simp_all
  obtain ⟨rfl, rfl⟩ := trodVars_none hV
  have hsz : (DataW.weightsEach Try.prog [81, 82] [d0, d1]).all (fun x => decide (x ≤ reachBytes)) = true := by
    exact hsz0
  clear hsz0
  have hsm : Rows.uptoSmall H ([d0, d1] ++ []) = true := hcond _ rfl
  have hbk : Rows.uptoBulkAll [d0, d1] ≤ 1048576 := by
    simp only [Rows.uptoSmall, decide_eq_true_eq, List.append_nil] at hsm
    exact hsm
  have hbk0 : Rows.uptoBulk d0 ≤ 1048576 := Nat.le_trans (bulk_part (l := [d0, d1]) (by simp)) hbk
  have hbk1 : Rows.uptoBulk d1 ≤ 1048576 := Nat.le_trans (bulk_part (l := [d0, d1]) (by simp)) hbk
  obtain ⟨l0, hr0, ho0, hn0, hs0⟩ := open_lists (hval 0 81 v0 rfl rfl) h0 hbk0
  obtain ⟨l1, hr1, -⟩ := open_listB (α := Bool) (fun b => [.bool b]) (fun _ => rfl) Try.underlying82 (by kernel_rfl) bool_read (hval 1 82 v1 rfl rfl) h1 hbk1
  rw [bool_flat] at hr1
  clear hA0 hval0
  refine (flockSets_walk W v0 l0 hr0 ho0 hn0 hs0 v1 l1 hr1).mono fun e W' ⟨he, bel⟩ => ?_
  subst he
  exact ⟨_, rfl, law_post laidOut Try.underlying4 (by kernel_rfl) rfl (by kernel_rfl) hW' rfl bel⟩

theorem flockSets_holds : Rows.FlockSetsUptoSaid :=
  OpenClaim.holds_of_cond 8 Try.f8 rfl rfl rfl rfl rfl rfl rfl ⟨rfl, rfl, rfl, rfl, rfl⟩ rfl rfl rfl rfl rfl (by kernel_rfl) Try.func8 (by kernel_rfl)
    (of_decide_eq_true (by kernel_rfl)) (by unfold Func.isWrapper; first | (rw [if_pos (by decide +kernel)]; kernel_rfl) | (rw [if_neg (by decide +kernel)]; exact ⟨rfl, rfl⟩))
    (fun os started H enc _ F => by rw [OpenClaim.pre_eq_preRow]; exact flockSets_lifted os started H enc F)

end Go.Proofs.Ytgomilodeaafdaa

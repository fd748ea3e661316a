/- DictPlays (as far as its bound): every script with two dicts answers as the document does. No condition. -/
import Derived.Test.YtgomilodeaafdaaEe
import Derived.Test.YtgomilodeaafdaaBa
namespace Go.Proofs.Ytgomilodeaafdaa
open Go.ChangeShapes Go.WideShapes Go.ChangeAt Go.RowKit
theorem dictPlays_laid (os : Os) : laidMet Try.prog Rows.dictPlaysUptoRow.laid ((laidWorld os).forCall (fun _ _ => 0) ⟨#[], #[.int .u64 0, .int .u64 0, .slice none 0 0], []⟩).memory :=
  laidMet_of_run' 8 (by kernel_rfl) (by kernel_rfl)
theorem dictPlays_reads (os : Os) (H : Type) (enc : TypeId × Value → H) : DataW.whole enc Try.prog ((laidWorld os).forCall (fun _ _ => 0) ⟨#[], #[.int .u64 0, .int .u64 0, .slice none 0 0], []⟩).memory Try.f3.params.toList Rows.dictPlaysSpec.vars false (#[.int .u64 0, .int .u64 0, .slice none 0 0] : Array Value).toList 8 = some ([.lit (.int .u64 0), .lit (.int .u64 0), .nil], [], []) := by kernel_rfl
set_option maxRecDepth 100000 in
theorem dictPlays_lifted (os : Os) (started : os.Started) (H : Type) (enc : TypeId × Value → H) (F : Stop.Interp) :
    ReturnsInHanded {} Try.checked os 3 .any ((Rows.OpenSpec.upto Rows.dictPlaysSpec).preRow enc Try.prog Try.f3 Rows.dictPlaysUptoRow.domain false Rows.dictPlaysUptoRow.laid) (((Rows.OpenSpec.upto Rows.dictPlaysSpec).at F).post enc Try.prog Try.f3 false true false false) := by
  refine returnsInHanded_of_row (C := Try.checked) (s := Rows.OpenSpec.upto Rows.dictPlaysSpec) own started (by kernel_rfl) Try.func3
    (witness_row_at (enc := enc) (C := Try.checked) false (laidWorld os) #[.int .u64 0, .int .u64 0, .slice none 0 0] rfl (by kernel_rfl) (by kernel_rfl) (by kernel_rfl)
      (OpenSpec.preRow_of_cond 8 (dictPlays_reads os H enc) (by kernel_rfl) (fun k hk => by cases hk; kernel_rfl) (by kernel_rfl) (dictPlays_laid os))) ?_
  intro W base args ds gs before hval0 hW _ hcond hsz0 hL _ _
  have hval : ∀ (j : Nat) t v, Try.f3.params[j]? = some t → args[j]? = some v → Value.okWide Try.prog W .any base t v := hval0
  have hW' := hW
  obtain ⟨p, q, hA0, hV, rfl, hfz, hnd⟩ := hW
  have hA : DataW.TrodAll enc Try.prog W 0 (fun _ => true) true Try.f3.params.toList args.toList ds p := hA0
  rw [Try.params3] at hA hval
  obtain ⟨v0, vs0, d0, ds0, p0, q0, hargs, rfl, rfl, h0, r0⟩ := trodAll_cons hA
  obtain ⟨v1, vs1, d1, ds1, p1, q1, rfl, rfl, rfl, h1, r1⟩ := trodAll_cons r0
  obtain ⟨v2, vs2, d2, ds2, p2, q2, rfl, rfl, rfl, h2, r2⟩ := trodAll_cons r1
  obtain ⟨rfl, rfl, rfl⟩ := trodAll_nil r2
  obtain rfl : args = #[v0, v1, v2] := by cases args; simp_all
  obtain ⟨rfl, rfl⟩ := trodVars_none hV
  have hsz : (DataW.weightsEach Try.prog [22, 22, 23] [d0, d1, d2]).all (fun x => decide (x ≤ reachBytes)) = true := by
    exact hsz0
  clear hsz0
  have hsm : Rows.uptoSmall H ([d0, d1, d2] ++ []) = true := hcond _ rfl
  have hbk : Rows.uptoBulkAll [d0, d1, d2] ≤ 1048576 := by
    simp only [Rows.uptoSmall, decide_eq_true_eq, List.append_nil] at hsm
    exact hsm
  have hbk2 : Rows.uptoBulk d2 ≤ 1048576 := Nat.le_trans (bulk_part (l := [d0, d1, d2]) (by simp)) hbk
  obtain ⟨hw0, hsz0⟩ := weights_cons hsz
  obtain ⟨x0, rfl⟩ := open_word Try.underlying22 (hval 0 22 v0 rfl rfl) h0
  obtain ⟨hw1, hsz1⟩ := weights_cons hsz0
  obtain ⟨x1, rfl⟩ := open_word Try.underlying22 (hval 1 22 v1 rfl rfl) h1
  obtain ⟨l2, hr2, hby2⟩ := open_listB spb spb_len Try.underlying23 (by kernel_rfl) sp_read (hval 2 23 v2 rfl rfl) h2 hbk2
  clear hA0 hval0
  refine (dictPlays_walk W x0 x1 v2 l2 hr2 hby2).mono fun e W' ⟨he, bel⟩ => ?_
  subst he
  exact ⟨_, rfl, law_post laidOut Try.underlying4 (by kernel_rfl) rfl (by kernel_rfl) hW' rfl bel⟩

theorem dictPlays_holds : Rows.DictPlaysUptoSaid :=
  OpenClaim.holds_of_cond 3 Try.f3 rfl rfl rfl rfl rfl rfl rfl ⟨rfl, rfl, rfl, rfl, rfl⟩ rfl rfl rfl rfl rfl (by kernel_rfl) Try.func3 (by kernel_rfl)
    (of_decide_eq_true (by kernel_rfl)) (by unfold Func.isWrapper; first | (rw [if_pos (by decide +kernel)]; kernel_rfl) | (rw [if_neg (by decide +kernel)]; exact ⟨rfl, rfl⟩))
    (fun os started H enc _ F => by rw [OpenClaim.pre_eq_preRow]; exact dictPlays_lifted os started H enc F)

end Go.Proofs.Ytgomilodeaafdaa

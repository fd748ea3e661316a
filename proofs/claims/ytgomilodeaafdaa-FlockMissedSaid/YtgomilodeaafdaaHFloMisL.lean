/- FlockMissed: a scan from 0 on, with changes between: each member that was one all the while is told. No condition. -/
import Derived.Test.YtgomilodeaafdaaBh
namespace Go.Proofs.Ytgomilodeaafdaa
open Go.ChangeShapes Go.WideShapes Go.ChangeAt Go.RowKit
open Go.ChangeMaps (open_string shut_string)
set_option maxRecDepth 100000 in
theorem flockMissed_lifted (os : Os) (started : os.Started) (H : Type) (enc : TypeId × Value → H) :
    ReturnsInHanded {} Try.checked os 13 .any (Rows.flockMissedSpec.pre6 enc Try.prog Try.f13 Rows.flockMissedRow.domain false) (Rows.flockMissedSpec.post enc Try.prog Try.f13 false true false false) := by
  refine returnsInHanded_of_change_sized (C := Try.checked) own started (by kernel_rfl) Try.func13
    (ChangeSpec.witness6 (enc := enc) (C := Try.checked) false ⟨#[], #[.int .u64 0, .slice none 0 0, .slice none 0 0, .slice none 0 0], []⟩ 8 (by kernel_rfl) (by kernel_rfl) (by kernel_rfl) (by kernel_rfl)) ?_
  intro W base args ds gs before hval0 hW hcnd hsz0 _
  have hval : ∀ (j : Nat) t v, Try.f13.params[j]? = some t → args[j]? = some v → Value.okWide Try.prog W .any base t v := hval0
  have hW' := hW
  obtain ⟨p, q, hA0, hV, rfl, hfz, hnd⟩ := hW
  have hA : DataW.TrodAll enc Try.prog W 0 (fun _ => true) true Try.f13.params.toList args.toList ds p := hA0
  rw [Try.params13] at hA hval
  obtain ⟨v0, vs0, d0, ds0, p0, q0, hargs, rfl, rfl, h0, r0⟩ := trodAll_cons hA
  obtain ⟨v1, vs1, d1, ds1, p1, q1, rfl, rfl, rfl, h1, r1⟩ := trodAll_cons r0
  obtain ⟨v2, vs2, d2, ds2, p2, q2, rfl, rfl, rfl, h2, r2⟩ := trodAll_cons r1
  obtain ⟨v3, vs3, d3, ds3, p3, q3, rfl, rfl, rfl, h3, r3⟩ := trodAll_cons r2
  obtain ⟨rfl, rfl, rfl⟩ := trodAll_nil r3
  obtain rfl : args = #[v0, v1, v2, v3] := by cases args; simp_all
  obtain ⟨rfl, rfl⟩ := trodVars_none hV
  have hsz : (DataW.weightsEach Try.prog [22, 39, 106, 66] [d0, d1, d2, d3]).all (fun x => decide (x ≤ reachBytes)) = true := by
    have h := hsz0
    simp only [List.append_nil] at h
    have e : (Try.f13.params.toList ++ DataSpec.varTypes Try.checked.prog Rows.flockMissedSpec.plain) = [22, 39, 106, 66] := by kernel_rfl
    rw [e] at h; exact h
  clear hsz0
  obtain ⟨hw0, hsz0⟩ := weights_cons hsz
  obtain ⟨x0, rfl⟩ := open_word Try.underlying22 (hval 0 22 v0 rfl rfl) h0
  obtain ⟨hw1, hsz1⟩ := weights_cons hsz0
  obtain ⟨l1, hr1, hb1⟩ := open_list tmb tmb_len Try.underlying39 (by kernel_rfl) tm_read (hval 1 39 v1 rfl rfl) h1
  have hby1 : l1.length * 16 ≤ reachBytes := by
    have e : Try.prog.bytesOf 9 = 16 := by kernel_rfl
    rw [← e]; exact hb1 _ hw1
  obtain ⟨hw2, hsz2⟩ := weights_cons hsz1
  obtain ⟨l2, hr2, hb2⟩ := open_list ctb ctb_len Try.underlying106 (by kernel_rfl) ct_read (hval 2 106 v2 rfl rfl) h2
  have hby2 : l2.length * 8 ≤ reachBytes := by
    have e : Try.prog.bytesOf 3 = 8 := by kernel_rfl
    rw [← e]; exact hb2 _ hw2
  obtain ⟨hw3, hsz3⟩ := weights_cons hsz2
  obtain ⟨l3, hr3, hb3⟩ := open_list so10 so10_len Try.underlying66 (by kernel_rfl) so10_read (hval 3 66 v3 rfl rfl) h3
  have hby3 : l3.length * 56 ≤ reachBytes := by
    have e : Try.prog.bytesOf 74 = 56 := by kernel_rfl
    rw [← e]; exact hb3 _ hw3
  clear hA0 hval0
  refine (flockMissed_walk W x0 v1 l1 hr1 hby1 v2 l2 hr2 hby2 v3 l3 hr3 hby3).mono fun e W' ⟨he, bel⟩ => ?_
  subst he
  exact ⟨_, rfl, law_post laidOut Try.underlying4 (by kernel_rfl) rfl (by kernel_rfl) hW' rfl bel⟩

theorem flockMissed_holds : Rows.FlockMissedSaid :=
  OpenClaim.holds_of_wide 13 Try.f13 rfl rfl rfl rfl rfl rfl rfl ⟨rfl, rfl, rfl, rfl, rfl⟩ rfl rfl rfl rfl rfl (by kernel_rfl) Try.func13 (by kernel_rfl)
    (of_decide_eq_true (by kernel_rfl)) (by unfold Func.isWrapper; rw [if_neg (of_decide_eq_false (by kernel_rfl))]; exact ⟨rfl, rfl⟩)
    (fun os started H enc _ => flockMissed_lifted os started H enc)
end Go.Proofs.Ytgomilodeaafdaa

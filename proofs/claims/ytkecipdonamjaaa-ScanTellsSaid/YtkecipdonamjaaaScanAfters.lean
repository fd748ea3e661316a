/- ScanAfters: for every cursor and every number of buckets the program's next cursor is the document's. No condition. -/
import Derived.Test.YtkecipdonamjaaaScanW
import Derived.Test.YtkecipdonamjaaaWrap
namespace Go.Proofs.Ytkecipdonamjaaa
open Go.ChangeShapes Go.WideShapes Go.ChangeAt Go.RowKit
open Go.ChangeMaps (open_string shut_string)

theorem after_lit (c : UInt64) (x y b : Int) (w : World) (h1 : b ≤ 9223372036854775807) (hx : x = wd c) (hy : y = (aft (lg b) c.toNat : Nat)) :
    Calls Try.prog 18 #[.int .u64 x, .int .i64 b] w fun e w' => e = .returned (.int .u64 y) ∧ w = w' := by
  subst hx; subst hy; exact after_any c b w h1
theorem scanAfters_walk (w : World) (c : UInt64) (b : Int) (lo : -9223372036854775808 ≤ b) (hi : b ≤ 9223372036854775807) :
    Calls Try.prog 3 #[.int .u64 (wd c), .int .i64 b] w fun e w' => e = .returned (.bool true) ∧ Below w.heap.size w w' := by
  go_enter Try.func3, Try.ntmps3
  go_wp2_with fail
  refine (after_any c b w hi).mono ?_
  rintro e w' ⟨rfl, rfl⟩
  go_wp2_with fail
  refine (refAfter_any c b w lo hi).mono ?_
  rintro e w' ⟨rfl, rfl⟩
  have g : (((aft (lg b) c.toNat : Nat) : Int) == ((aft (lg b) c.toNat : Nat) : Int)) = true := beq_self_eq_true _
  go_wp2_with fail
  refine (after_lit 0 0 4 8 w (by decide) rfl (by decide)).mono ?_
  rintro e w' ⟨rfl, rfl⟩
  go_wp2
  go_ret
  exact ⟨by simp, Below.refl _ _⟩
set_option maxRecDepth 100000 in
theorem scanAfters_lifted (os : Os) (started : os.Started) (H : Type) (enc : TypeId × Value → H) :
    ReturnsInHanded {} Try.checked os 3 .any (Rows.scanAftersSpec.pre6 enc Try.prog Try.f3 Rows.scanAftersRow.domain false) (Rows.scanAftersSpec.post enc Try.prog Try.f3 false true false false) := by
  refine returnsInHanded_of_change_sized (C := Try.checked) own started (by kernel_rfl) Try.func3
    (ChangeSpec.witness6 (enc := enc) (C := Try.checked) false ⟨#[], #[.int .u64 0, .int .i64 0], []⟩ 8 (by kernel_rfl) (by kernel_rfl) (by kernel_rfl) (by kernel_rfl)) ?_
  intro W base args ds gs before hval0 hW hcnd hsz0 _
  have hval : ∀ (j : Nat) t v, Try.f3.params[j]? = some t → args[j]? = some v → Value.okWide Try.prog W .any base t v := hval0
  have hW' := hW
  obtain ⟨p, q, hA0, hV, rfl, hfz, hnd⟩ := hW
  have hA : DataW.TrodAll enc Try.prog W 0 (fun _ => true) true Try.f3.params.toList args.toList ds p := hA0
  rw [Try.params3] at hA hval
  obtain ⟨v0, vs0, d0, ds0, p0, q0, hargs, rfl, rfl, h0, r0⟩ := trodAll_cons hA
  obtain ⟨v1, vs1, d1, ds1, p1, q1, rfl, rfl, rfl, h1, r1⟩ := trodAll_cons r0
  obtain ⟨rfl, rfl, rfl⟩ := trodAll_nil r1
  obtain rfl : args = #[v0, v1] := by cases args; simp_all
  obtain ⟨rfl, rfl⟩ := trodVars_none hV
  have hsz : (DataW.weightsEach Try.prog [22, 3] [d0, d1]).all (fun x => decide (x ≤ reachBytes)) = true := by
    have h := hsz0
    simp only [List.append_nil] at h
    have e : (Try.f3.params.toList ++ DataSpec.varTypes Try.checked.prog Rows.scanAftersSpec.plain) = [22, 3] := by kernel_rfl
    rw [e] at h; exact h
  clear hsz0
  obtain ⟨hw0, hsz0⟩ := weights_cons hsz
  obtain ⟨x0, rfl⟩ := open_word Try.underlying22 (hval 0 22 v0 rfl rfl) h0
  obtain ⟨hw1, hsz1⟩ := weights_cons hsz0
  obtain ⟨x1, rfl, lo1, hi1⟩ := open_i64 Try.underlying3 (hval 1 3 v1 rfl rfl) h1
  clear hA0 hval0
  refine (scanAfters_walk W x0 x1 lo1 hi1).mono fun e W' ⟨he, bel⟩ => ?_
  subst he
  exact ⟨_, rfl, law_post laidOut Try.underlying4 (by kernel_rfl) rfl (by kernel_rfl) hW' rfl bel⟩

theorem scanAfters_holds : Rows.ScanAftersSaid :=
  OpenClaim.holds_of_wide 3 Try.f3 rfl rfl rfl rfl rfl rfl rfl ⟨rfl, rfl, rfl, rfl, rfl⟩ rfl rfl rfl rfl rfl (by kernel_rfl) Try.func3 (by kernel_rfl)
    (of_decide_eq_true (by kernel_rfl)) (by unfold Func.isWrapper; rw [if_neg (of_decide_eq_false (by kernel_rfl))]; exact ⟨rfl, rfl⟩)
    (fun os started H enc _ => scanAfters_lifted os started H enc)
end Go.Proofs.Ytkecipdonamjaaa

/- ScanNil: no dictionary, and one without buckets. No condition. -/
import Derived.Test.YtkecipdonamjaaaScanB
import Derived.Test.YtkecipdonamjaaaWrap
namespace Go.Proofs.Ytkecipdonamjaaa
open Go.ChangeShapes Go.WideShapes Go.ChangeAt Go.RowKit
open Go.ChangeMaps (open_string shut_string)
theorem scanNil_walk (w : World) (c : UInt64) (b : Int) (lo : -9223372036854775808 ≤ b) (hi : b ≤ 9223372036854775807) :
    Calls Try.prog 12 #[.int .u64 (wd c), .int .i64 b] w fun e w' => e = .returned (.bool true) ∧ Below w.heap.size w w' := by
  go_enter Try.func12, Try.ntmps12
  go_wp2_with fail
  refine (nextS_any _ _ _ _ (fun W _ => sizesS_none W) ⟨_, rfl⟩).mono ?_
  rintro e w1 ⟨rfl, hb1⟩
  have HB1 := Lib.hid hb1
  clear hb1
  go_wp2_with fail
  refine (newS_any c w1).mono ?_
  rintro e w2 ⟨rfl, hw2⟩
  have hn : w2.heap[w1.heap.size]? = some (fieldsO 123 ⟨c, 0, [], 0, [], 0, 0⟩) := by rw [← hw2]; exact alloc_at _ _
  have hb2 : Below w.heap.size w1 w2 := by rw [← hw2]; exact (Below.refl _ _).alloc HB1.out.size _
  have HN := Lib.hid hn
  have HB2 := Lib.hid hb2
  clear hn hb2 hw2
  go_wp2_with fail
  refine (nextS_any w2 (ptr w1.heap.size) (wd c) b (fun W hW => ?_) ⟨_, rfl⟩).mono ?_
  · obtain ⟨x, y, rfl⟩ := hW
    refine sizesS_new _ _ c ?_
    have h1 := (Array.getElem?_eq_some_iff.1 HN.out).1
    rw [Below.heap_alloc _ _ _ (by simp; omega), Below.heap_alloc _ _ _ h1]
    exact HN.out
  rintro e w3 ⟨rfl, hb3⟩
  have HB3 := Lib.hid hb3
  clear hb3
  go_wp2_with fail
  refine (wakes6_any w3).mono ?_
  rintro e w4 ⟨rfl, hb4⟩
  have HB4 := Lib.hid hb4
  clear hb4
  go_wp2
  go_ret
  refine ⟨rfl, ?_⟩
  have b1 := HB1.out
  have b2 := b1.trans HB2.out
  have b3 := b2.trans (HB3.out.mono b2.size)
  exact b3.trans (HB4.out.mono b3.size)
set_option maxRecDepth 100000 in
theorem scanNil_lifted (os : Os) (started : os.Started) (H : Type) (enc : TypeId × Value → H) :
    ReturnsInHanded {} Try.checked os 12 .any (Rows.scanNilSpec.pre6 enc Try.prog Try.f12 Rows.scanNilRow.domain false) (Rows.scanNilSpec.post enc Try.prog Try.f12 false true false false) := by
  refine returnsInHanded_of_change_sized (C := Try.checked) own started (by kernel_rfl) Try.func12
    (ChangeSpec.witness6 (enc := enc) (C := Try.checked) false ⟨#[], #[.int .u64 0, .int .i64 0], []⟩ 8 (by kernel_rfl) (by kernel_rfl) (by kernel_rfl) (by kernel_rfl)) ?_
  intro W base args ds gs before hval0 hW hcnd hsz0 _
  have hval : ∀ (j : Nat) t v, Try.f12.params[j]? = some t → args[j]? = some v → Value.okWide Try.prog W .any base t v := hval0
  have hW' := hW
  obtain ⟨p, q, hA0, hV, rfl, hfz, hnd⟩ := hW
  have hA : DataW.TrodAll enc Try.prog W 0 (fun _ => true) true Try.f12.params.toList args.toList ds p := hA0
  rw [Try.params12] at hA hval
  obtain ⟨v0, vs0, d0, ds0, p0, q0, hargs, rfl, rfl, h0, r0⟩ := trodAll_cons hA
  obtain ⟨v1, vs1, d1, ds1, p1, q1, rfl, rfl, rfl, h1, r1⟩ := trodAll_cons r0
  obtain ⟨rfl, rfl, rfl⟩ := trodAll_nil r1
  obtain rfl : args = #[v0, v1] := by cases args; simp_all
  obtain ⟨rfl, rfl⟩ := trodVars_none hV
  have hsz : (DataW.weightsEach Try.prog [22, 3] [d0, d1]).all (fun x => decide (x ≤ reachBytes)) = true := by
    have h := hsz0
    simp only [List.append_nil] at h
    have e : (Try.f12.params.toList ++ DataSpec.varTypes Try.checked.prog Rows.scanNilSpec.plain) = [22, 3] := by kernel_rfl
    rw [e] at h; exact h
  clear hsz0
  obtain ⟨hw0, hsz0⟩ := weights_cons hsz
  obtain ⟨x0, rfl⟩ := open_word Try.underlying22 (hval 0 22 v0 rfl rfl) h0
  obtain ⟨hw1, hsz1⟩ := weights_cons hsz0
  obtain ⟨x1, rfl, lo1, hi1⟩ := open_i64 Try.underlying3 (hval 1 3 v1 rfl rfl) h1
  clear hA0 hval0
  refine (scanNil_walk W x0 x1 lo1 hi1).mono fun e W' ⟨he, bel⟩ => ?_
  subst he
  exact ⟨_, rfl, law_post laidOut Try.underlying4 (by kernel_rfl) rfl (by kernel_rfl) hW' rfl bel⟩

theorem scanNil_holds : Rows.ScanNilSaid :=
  OpenClaim.holds_of_wide 12 Try.f12 rfl rfl rfl rfl rfl rfl rfl ⟨rfl, rfl, rfl, rfl, rfl⟩ rfl rfl rfl rfl rfl (by kernel_rfl) Try.func12 (by kernel_rfl)
    (of_decide_eq_true (by kernel_rfl)) (by unfold Func.isWrapper; rw [if_neg (of_decide_eq_false (by kernel_rfl))]; exact ⟨rfl, rfl⟩)
    (fun os started H enc _ => scanNil_lifted os started H enc)
end Go.Proofs.Ytkecipdonamjaaa

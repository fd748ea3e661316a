/- PoolNone: a nil pool: every question answered, nothing done. No condition. -/
import Derived.Test.YtpcjogmikgfgdaaPoolH
namespace Go.Proofs.Ytpcjogmikgfgdaa
open Go.ChangeShapes Go.WideShapes Go.ChangeAt Go.RowKit
theorem takeP_none (w : World) : Calls Try.prog 49 #[.pointer none] w fun e w' => e = .returned (.tuple #[.agg #[.string ⟨#[]⟩, .int .u64 0], .bool false]) ∧ Fr (fun _ => False) w w' := by
  go_enter Try.func49, Try.ntmps49
  go_wp2
  refine bodyPost_ret (v := .tuple #[.agg #[.string ⟨#[]⟩, .int .u64 0], .bool false]) ?_ rfl ⟨rfl, Fr.alloc _ _ _⟩
  have hres : Try.f49.results = #[.cell 2 73, .tmp 3] := by kernel_rfl
  simp [results, hres, asAddr, go_sem, Result.andThen]
theorem clearP_none (w : World) : Calls Try.prog 55 #[.pointer none] w fun e w' => (∃ v, e = .returned v) ∧ w = w' := by
  go_enter Try.func55, Try.ntmps55
  go_wp2
  go_end0
  exact ⟨⟨_, rfl⟩, rfl⟩
theorem offerP_none (w : World) (k : ByteArray) (r : Nat) : Calls Try.prog 46 #[.pointer none, .agg #[.string k, .int .u64 r]] w fun e w' => e = .returned (.bool false) ∧ Fr (fun _ => False) w w' := by
  go_enter Try.func46, Try.ntmps46
  go_wp2
  go_ret
  exact ⟨rfl, Fr.alloc _ _ _⟩
theorem dropP_none (w : World) (k : ByteArray) : Calls Try.prog 51 #[.pointer none, .string k] w fun e w' => e = .returned (.bool false) ∧ Fr (fun _ => False) w w' := by
  go_enter Try.func51, Try.ntmps51
  go_wp2
  go_ret
  exact ⟨rfl, Fr.alloc _ _ _⟩
theorem candP_none (w : World) : Calls Try.prog 47 #[.pointer none] w fun e w' => e = .returned (.slice none 0 0) ∧ w = w' := by
  go_enter Try.func47, Try.ntmps47
  go_wp2
  go_ret
  exact ⟨rfl, rfl⟩
set_option maxRecDepth 100000 in
set_option maxHeartbeats 2000000 in
theorem poolNone_walk (w : World) : Calls Try.prog 12 #[] w fun e w' => e = .returned (.bool true) ∧ Below w.heap.size w w' := by
  go_enter Try.func12, Try.ntmps12
  go_wp2_with fail
  refine (wakes14_any _).mono ?_
  rintro e w1 ⟨rfl, hb1⟩
  have HB1 := Lib.hid hb1
  clear hb1
  go_wp2_with fail
  refine (takeP_none _).mono ?_
  rintro e w2 ⟨rfl, hf⟩
  have HB2 : Hid (Below w.heap.size w w2) := HB1.out.trans (hf.below HB1.out.size (fun _ h => h.elim))
  clear hf
  go_wp2_with fail
  refine (clearP_none _).mono ?_
  rintro e w3 ⟨⟨_, rfl⟩, rfl⟩
  obtain ⟨W, hW⟩ : ∃ W, w2.alloc (.cells #[.string ⟨#[]⟩, .int .u64 0] 73) = W := ⟨_, rfl⟩
  have HB3 : Hid (Below w.heap.size w W) := by rw [← hW]; exact HB2.out.alloc HB2.out.size _
  have hbx : W.heap[w2.heap.size]? = some (.cells #[.string ⟨#[]⟩, .int .u64 0] 73 (0, 0)) := by rw [← hW]; exact alloc_at _ _
  rw [hW]
  clear hW
  go_wp2_with fail
  refine (offerP_none _ _ 0).mono ?_
  rintro e w4 ⟨rfl, hf⟩
  have HB4 : Hid (Below w.heap.size w w4) := HB3.out.trans (hf.below HB3.out.size (fun _ h => h.elim))
  have hbx4 := (hf.block _ (Array.getElem?_eq_some_iff.1 hbx).1 (fun h => h)).trans hbx
  clear hf hbx
  go_wp2_with fail
  refine (dropP_none _ _).mono ?_
  rintro e w5 ⟨rfl, hf⟩
  have HB5 : Hid (Below w.heap.size w w5) := HB4.out.trans (hf.below HB4.out.size (fun _ h => h.elim))
  have hbx5 := (hf.block _ (Array.getElem?_eq_some_iff.1 hbx4).1 (fun h => h)).trans hbx4
  have x0 : w5.cell? ⟨w2.heap.size, 0, none⟩ = some (.string ⟨#[]⟩) := cell_of_blk hbx5 0
  have x1 : w5.cell? ⟨w2.heap.size, 1, none⟩ = some (.int .u64 0) := cell_of_blk hbx5 1
  clear hf hbx4 hbx5
  go_wp2_with fail
  refine (candP_none _).mono ?_
  rintro e w6 ⟨rfl, rfl⟩
  go_wp2
  go_ret
  exact ⟨rfl, HB5.out⟩
set_option maxRecDepth 100000 in
theorem poolNone_lifted (os : Os) (started : os.Started) (H : Type) (enc : TypeId × Value → H) :
    ReturnsInHanded {} Try.checked os 12 .any (Rows.poolNoneSpec.pre6 enc Try.prog Try.f12 Rows.poolNoneRow.domain false) (Rows.poolNoneSpec.post enc Try.prog Try.f12 false true false false) := by
  refine returnsInHanded_of_change_sized (C := Try.checked) own started (by kernel_rfl) Try.func12
    (ChangeSpec.witness6 (enc := enc) (C := Try.checked) false ⟨#[], #[], []⟩ 8 (by kernel_rfl) (by kernel_rfl) (by kernel_rfl) (by kernel_rfl)) ?_
  intro W base args ds gs before hval0 hW hcnd hsz0 _
  have hval : ∀ (j : Nat) t v, Try.f12.params[j]? = some t → args[j]? = some v → Value.okWide Try.prog W .any base t v := hval0
  have hW' := hW
  obtain ⟨p, q, hA0, hV, rfl, hfz, hnd⟩ := hW
  have hA : DataW.TrodAll enc Try.prog W 0 (fun _ => true) true Try.f12.params.toList args.toList ds p := hA0
  rw [Try.params12] at hA hval
  obtain ⟨hargs, rfl, rfl⟩ := trodAll_nil hA
  obtain rfl : args = #[] := by cases args; simp_all
  obtain ⟨rfl, rfl⟩ := trodVars_none hV
  clear hsz0
  clear hA0 hval0
  refine (poolNone_walk W ).mono fun e W' ⟨he, bel⟩ => ?_
  subst he
  exact ⟨_, rfl, law_post laidOut Try.underlying4 (by kernel_rfl) rfl (by kernel_rfl) hW' rfl bel⟩

theorem poolNone_holds : Rows.PoolNoneSaid :=
  OpenClaim.holds_of_wide 12 Try.f12 rfl rfl rfl rfl rfl rfl rfl ⟨rfl, rfl, rfl, rfl, rfl⟩ rfl rfl rfl rfl rfl (by kernel_rfl) Try.func12 (by kernel_rfl)
    (of_decide_eq_true (by kernel_rfl)) (by unfold Func.isWrapper; rw [if_neg (of_decide_eq_false (by kernel_rfl))]; exact ⟨rfl, rfl⟩)
    (fun os started H enc _ => poolNone_lifted os started H enc)
end Go.Proofs.Ytpcjogmikgfgdaa

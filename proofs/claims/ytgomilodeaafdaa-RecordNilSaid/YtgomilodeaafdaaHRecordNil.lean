/- RecordNil: no record. No condition. -/
import Derived.Test.YtgomilodeaafdaaBn
namespace Go.Proofs.Ytgomilodeaafdaa
open Go.ChangeShapes Go.WideShapes Go.ChangeAt Go.RowKit
open Go.ChangeMaps (open_string shut_string)
set_option maxRecDepth 100000 in
theorem open_st9 {H : Type} {enc : TypeId × Value → H} {w : World} {base b0 : Nat} {r : Reach} {held : Bool} {v : Value} {d : DataW H} {p : List MemPlace} (hv : Value.okWide Try.prog w r b0 55 v) (h : DataW.Trod enc Try.prog w base (fun _ => true) held 55 v d p) :
    ∃ x : St9B, v = .agg (st9 x).toArray := by
  obtain ⟨cs, rfl, _⟩ := okWide_struct Try.underlying55 hv
  obtain ⟨fuel, hf⟩ := h
  obtain ⟨x, hx⟩ := st9_read fuel _ _ hf
  refine ⟨x, ?_⟩
  rw [← hx]
  simp [Value.cells]
theorem recCopy_nil (w0 w : World) (hb : Below w0.heap.size w0 w) : Calls Try.prog 56 #[.pointer none] w fun e w' => ∃ r d M F, e = .returned (.pointer (some ⟨r, 0, none⟩)) ∧ Rc 0 w0 w' F r d M [] ∧ M.seed = 0 ∧ Below w.heap.size w w' ∧ ∀ k, F k → w.heap.size ≤ k := by
  have HN := Lib.hid (rc_new w0 w 0 hb)
  clear hb
  go_enter Try.func56, Try.ntmps56
  go_wp2_with fail
  refine HN.out.mono ?_
  rintro e w1 ⟨r, d, M, F, rfl, h⟩
  go_wp2_with fail
  go_ret
  exact ⟨r, d, M, F, rfl, h⟩
set_option maxRecDepth 100000 in
set_option maxHeartbeats 2000000 in
theorem recordNil_walk (w : World) (o : St9B) : Calls Try.prog 11 #[.agg (st9 o).toArray] w fun e w' => e = .returned (.bool true) ∧ Below w.heap.size w w' := by
  have HASK : ∀ W, Hid (Calls Try.prog 58 #[.pointer none, .pointer none, .agg (st9 o).toArray] W fun e w' => e = .returned (.bool true) ∧ Below W.heap.size W w') := fun W => asked_nil W o
  obtain ⟨kd, who, f, s, n, ct, ho, -⟩ := agg_box w o
  rw [ho] at HASK ⊢
  clear ho
  have hk1 : Fits (⟨#[97]⟩, ⟨#[49]⟩) := by unfold Fits; decide
  have HK1 := Lib.hid hk1
  obtain ⟨W0, hW0⟩ : ∃ W0, w.alloc (.cells #[.int .i64 kd, .int .i64 who, .string f, .string s, .int .u64 n, .int .i64 ct] 55) = W0 := ⟨_, rfl⟩
  have hb : W0.heap[w.heap.size]? = some (.cells #[.int .i64 kd, .int .i64 who, .string f, .string s, .int .u64 n, .int .i64 ct] 55 (0, 0)) := by rw [← hW0]; exact alloc_new w _
  have HB0 : Hid (Below w.heap.size w W0) := by rw [← hW0]; exact (Below.refl _ _).alloc (Nat.le_refl _) _
  have HBL := Lib.hid hb
  have d0 : W0.cell? ⟨w.heap.size, 0, none⟩ = some (.int .i64 kd) := cell_of_blk hb 0
  have hlt : w.heap.size < W0.heap.size := (Array.getElem?_eq_some_iff.1 hb).1
  clear hb hk1
  go_enter Try.func11, Try.ntmps11
  by_cases h7 : kd = 7
  · subst h7
    go_wp2_with fail
    refine (recCopy_nil w W0 HB0.out).mono ?_
    rintro e w1 ⟨r, d, M0, F0, rfl, h0, -, -, -⟩
    have H0 := Lib.hid h0
    clear h0 hW0
    go_wp2_with fail
    refine (rc_set w w1 0 F0 r d M0 [] _ _ H0.out HK1.out (by decide)).mono ?_
    rintro e w3 ⟨rfl, M1, h3, -, -⟩
    have HL := Lib.hid (recLen_any w3 _ _ r d M1 _ h3.rf)
    have H3 := Lib.hid h3
    clear h3
    go_wp2_with fail
    refine HL.out.mono ?_
    rintro e w' ⟨rfl, rfl⟩
    go_wp2_with fail
    go_ret
    exact ⟨rfl, H3.out.bel⟩
  · have g7 : (kd == 7) = false := beq_eq_false_iff_ne.2 h7
    go_wp2_with fail
    refine (rc_new w W0 1 HB0.out).mono ?_
    rintro e w1 ⟨r, d, M0, F0, rfl, h0, -, hb1, hF0⟩
    have H0 := Lib.hid h0
    have hbl1 : w1.heap[w.heap.size]? = some (.cells #[.int .i64 kd, .int .i64 who, .string f, .string s, .int .u64 n, .int .i64 ct] 55 (0, 0)) := (hb1.block _ hlt).trans HBL.out
    have HBL1 := Lib.hid hbl1
    have HF0 := Lib.hid hF0
    clear h0 hW0 hb1 hF0 hbl1
    go_wp2_with fail
    refine (rc_set w w1 0 F0 r d M0 [] _ _ H0.out HK1.out (by decide)).mono ?_
    rintro e w3 ⟨rfl, M1, h3, -, hf3⟩
    have hb3 : w3.heap[w.heap.size]? = some (.cells #[.int .i64 kd, .int .i64 who, .string f, .string s, .int .u64 n, .int .i64 ct] 55 (0, 0)) := (hf3.block _ (Array.getElem?_eq_some_iff.1 HBL1.out).1 (fun hk => by have := HF0.out _ hk; omega)).trans HBL1.out
    have H3 := Lib.hid h3
    have e0 : w3.cell? ⟨w.heap.size, 0, none⟩ = some (.int .i64 kd) := cell_of_blk hb3 0
    have e1 : w3.cell? ⟨w.heap.size, 1, none⟩ = some (.int .i64 who) := cell_of_blk hb3 1
    have e2 : w3.cell? ⟨w.heap.size, 2, none⟩ = some (.string f) := cell_of_blk hb3 2
    have e3 : w3.cell? ⟨w.heap.size, 3, none⟩ = some (.string s) := cell_of_blk hb3 3
    have e4 : w3.cell? ⟨w.heap.size, 4, none⟩ = some (.int .u64 n) := cell_of_blk hb3 4
    have e5 : w3.cell? ⟨w.heap.size, 5, none⟩ = some (.int .i64 ct) := cell_of_blk hb3 5
    clear h3 hf3 hb3 d0
    go_wp2_with fail
    refine (HASK w3).out.mono ?_
    rintro e w4 ⟨rfl, hb4⟩
    have HB4 := Lib.hid (H3.out.bel.trans (hb4.mono H3.out.bel.size))
    go_wp2_with fail
    go_ret
    exact ⟨rfl, HB4.out⟩
set_option maxRecDepth 100000 in
theorem recordNil_lifted (os : Os) (started : os.Started) (H : Type) (enc : TypeId × Value → H) :
    ReturnsInHanded {} Try.checked os 11 .any (Rows.recordNilSpec.pre6 enc Try.prog Try.f11 Rows.recordNilRow.domain false) (Rows.recordNilSpec.post enc Try.prog Try.f11 false true false false) := by
  refine returnsInHanded_of_change_sized (C := Try.checked) own started (by kernel_rfl) Try.func11
    (ChangeSpec.witness6 (enc := enc) (C := Try.checked) false ⟨#[], #[.agg #[.int .i64 0, .int .i64 0, .string ⟨#[]⟩, .string ⟨#[]⟩, .int .u64 0, .int .i64 0]], []⟩ 8 (by kernel_rfl) (by kernel_rfl) (by kernel_rfl) (by kernel_rfl)) ?_
  intro W base args ds gs before hval0 hW hcnd hsz0 _
  have hval : ∀ (j : Nat) t v, Try.f11.params[j]? = some t → args[j]? = some v → Value.okWide Try.prog W .any base t v := hval0
  have hW' := hW
  obtain ⟨p, q, hA0, hV, rfl, hfz, hnd⟩ := hW
  have hA : DataW.TrodAll enc Try.prog W 0 (fun _ => true) true Try.f11.params.toList args.toList ds p := hA0
  rw [Try.params11] at hA hval
  obtain ⟨v0, vs0, d0, ds0, p0, q0, hargs, rfl, rfl, h0, r0⟩ := trodAll_cons hA
  obtain ⟨rfl, rfl, rfl⟩ := trodAll_nil r0
  obtain rfl : args = #[v0] := by cases args; simp_all
  obtain ⟨rfl, rfl⟩ := trodVars_none hV
  have hsz : (DataW.weightsEach Try.prog [55] [d0]).all (fun x => decide (x ≤ reachBytes)) = true := by
    have h := hsz0
    simp only [List.append_nil] at h
    have e : (Try.f11.params.toList ++ DataSpec.varTypes Try.checked.prog Rows.recordNilSpec.plain) = [55] := by kernel_rfl
    rw [e] at h; exact h
  clear hsz0
  obtain ⟨hw0, hsz0⟩ := weights_cons hsz
  obtain ⟨x0, rfl⟩ := open_st9 (hval 0 55 v0 rfl rfl) h0
  clear hA0 hval0
  refine (recordNil_walk W x0).mono fun e W' ⟨he, bel⟩ => ?_
  subst he
  exact ⟨_, rfl, law_post laidOut Try.underlying4 (by kernel_rfl) rfl (by kernel_rfl) hW' rfl bel⟩

theorem recordNil_holds : Rows.RecordNilSaid :=
  OpenClaim.holds_of_wide 11 Try.f11 rfl rfl rfl rfl rfl rfl rfl ⟨rfl, rfl, rfl, rfl, rfl⟩ rfl rfl rfl rfl rfl (by kernel_rfl) Try.func11 (by kernel_rfl)
    (of_decide_eq_true (by kernel_rfl)) (by unfold Func.isWrapper; rw [if_neg (of_decide_eq_false (by kernel_rfl))]; exact ⟨rfl, rfl⟩)
    (fun os started H enc _ => recordNil_lifted os started H enc)
end Go.Proofs.Ytgomilodeaafdaa

/- The walk of GlobSplits. -/
import Derived.Test.YthiamkfghnopgaaDoorGlobY
namespace Go.Proofs.YthiamkfghnopgaaDoor
open Go.RowKit
theorem below_drewZ {B : Nat} {w w' : World} (h : Below B w w') (m : Nat) : Below B w (w'.drewN m) :=
  ⟨h.os, h.tape, h.output, h.size, h.block⟩
theorem txt_len (l : List SgB) (h : ∀ x ∈ l, x.o.length ≤ 1048576) : (txt l).length ≤ l.length * 2097170 := by
  induction l with
  | nil => simp [txt]
  | cons x l ih =>
    have h1 := ih fun y hy => h y (by simp [hy])
    have h2 := h x (by simp)
    have h3 := writ_len x.k x.a x.b x.o
    have e : txt (x :: l) = wr1 x ++ txt l := rfl
    rw [e, List.length_append, List.length_cons]
    unfold wr1
    omega
set_option maxRecDepth 100000 in
set_option maxHeartbeats 4000000 in
theorem globSplits_walk (w : World) (v0 : Value) (l0 : List SgB) (hr0 : RdC w 4 v0 l0.length (l0.flatMap sgc)) (ho0 : ∀ x ∈ l0, SgOk w x) (v1 : Value) (l1 : List SgB) (hr1 : RdC w 4 v1 l1.length (l1.flatMap sgc)) (ho1 : ∀ x ∈ l1, SgOk w x) (s : ByteArray) (hs : s.size ≤ 140737488351232) :
    Calls Tryd.prog 4 #[v0, v1, .string s] w fun e w' => e = .returned (.bool true) ∧ Below w.heap.size w w' := by
  have key : ∀ l : List SgB, (∀ x ∈ l, SgOk w x) → ∃ p : ByteArray, mkS (txt (l.take 40)) = p ∧ p.size ≤ 100000000 ∧ bl p = txt (l.take 40) := fun l h => by
    refine ⟨_, rfl, ?_, rfl⟩
    rw [mk_size]
    have h1 := txt_len (l.take 40) (fun x hx => (h x (List.mem_of_mem_take hx)).2)
    have h2 : (l.take 40).length ≤ 40 := by rw [List.length_take]; omega
    omega
  obtain ⟨pa, hpa, hza, hba⟩ := key l0 ho0
  obtain ⟨pb, hpb, hzb, hbb⟩ := key l1 ho1
  obtain ⟨A, hA⟩ : ∃ A, (l0.take 40).map sg1 = A := ⟨_, rfl⟩
  obtain ⟨B, hB⟩ : ∃ B, (l1.take 40).map sg1 = B := ⟨_, rfl⟩
  have hsa : signs (bl pa) = A := by rw [hba, ← hA]; have := signs_txt (l0.take 40) []; rwa [List.append_nil, signs_nil, List.append_nil] at this
  have hsb : signs (bl pb) = B := by rw [hbb, ← hB]; have := signs_txt (l1.take 40) []; rwa [List.append_nil, signs_nil, List.append_nil] at this
  have hsab : signs (bl (pa ++ pb)) = A ++ B := by rw [bl_app, hba, signs_txt, hsb, hA]
  have HF0 : Hid (∀ w', Below w.heap.size w w' → Calls Tryd.prog 12 #[v0, .int .i64 40] w' fun e w'' => (∃ v', e = .returned v' ∧ RdC w' 4 v' (l0.take 40).length ((l0.take 40).flatMap sgc)) ∧ w' = w'') := fun w' h => few_any l0 v0 w' (hr0.below h)
  have HF1 : Hid (∀ w', Below w.heap.size w w' → Calls Tryd.prog 12 #[v1, .int .i64 40] w' fun e w'' => (∃ v', e = .returned v' ∧ RdC w' 4 v' (l1.take 40).length ((l1.take 40).flatMap sgc)) ∧ w' = w'') := fun w' h => few_any l1 v1 w' (hr1.below h)
  have HT0 : Hid (∀ w' v, Below w.heap.size w w' → RdC w' 4 v (l0.take 40).length ((l0.take 40).flatMap sgc) → Calls Tryd.prog 11 #[v] w' fun e w'' => e = .returned (.string pa) ∧ Below w'.heap.size w' w'') := fun w' v h hr => by
    rw [← hpa]; exact text_any (l0.take 40) v w' hr (fun x hx => (ho0 x (List.mem_of_mem_take hx)).below h) (by rw [List.length_take]; omega)
  have HT1 : Hid (∀ w' v, Below w.heap.size w w' → RdC w' 4 v (l1.take 40).length ((l1.take 40).flatMap sgc) → Calls Tryd.prog 11 #[v] w' fun e w'' => e = .returned (.string pb) ∧ Below w'.heap.size w' w'') := fun w' v h hr => by
    rw [← hpb]; exact text_any (l1.take 40) v w' hr (fun x hx => (ho1 x (List.mem_of_mem_take hx)).below h) (by rw [List.length_take]; omega)
  have HMA := Lib.hid (fun (t : ByteArray) (b : Bool) (w' : World) (ht : t.size ≤ 1000) (hb : means A (bl t) = b) => match_lit pa t b w' (by omega) (by omega) (by unfold gm; rw [hsa]; exact hb))
  have HMB := Lib.hid (fun (t : ByteArray) (b : Bool) (w' : World) (ht : t.size ≤ 1000) (hb : means B (bl t) = b) => match_lit pb t b w' (by omega) (by omega) (by unfold gm; rw [hsb]; exact hb))
  have HMAB := Lib.hid (fun (t : ByteArray) (b : Bool) (w' : World) (ht : t.size ≤ 1000) (hb : means (A ++ B) (bl t) = b) => match_lit (pa ++ pb) t b w' (by rw [ByteArray.size_append]; omega) (by omega) (by unfold gm; rw [hsab]; exact hb))
  clear key hpa hpb hba hbb hA hB hsa hsb hsab hr0 hr1 ho0 ho1
  go_enter Tryd.func4, Tryd.ntmps4
  go_wp2_with fail
  refine (wakes_any _).mono ?_
  rintro e w1 ⟨rfl, m1, rfl⟩
  have HB1 := Lib.hid (below_drewZ (Below.refl w.heap.size w) m1)
  obtain ⟨w1, hw1⟩ : ∃ w1, w.drewN m1 = w1 := ⟨_, rfl⟩
  rw [hw1] at HB1 ⊢
  clear hw1
  go_wp2_with fail
  refine (HF0.out w1 HB1.out).mono ?_
  rintro e w2 ⟨⟨va, rfl, hra⟩, rfl⟩
  have HRA := Lib.hid hra
  clear hra
  go_wp2_with fail
  refine (HT0.out w1 va HB1.out HRA.out).mono ?_
  rintro e w2 ⟨rfl, hb2⟩
  have HB2 := Lib.hid (HB1.out.trans (hb2.mono HB1.out.size))
  clear hb2 HRA
  go_wp2_with fail
  refine (HF1.out w2 HB2.out).mono ?_
  rintro e w3 ⟨⟨vb, rfl, hrb⟩, rfl⟩
  have HRB := Lib.hid hrb
  clear hrb
  go_wp2_with fail
  refine (HT1.out w2 vb HB2.out HRB.out).mono ?_
  rintro e w3 ⟨rfl, hb3⟩
  have HB3 := Lib.hid (HB2.out.trans (hb3.mono HB2.out.size))
  clear hb3 HRB HF0 HF1 HT0 HT1 HB1 HB2
  go_upto_if 21 with (fail)
  go_cut [2] from 22 to 23 (fun a wc => wc = w3 ∧ ∃ s' : ByteArray, s'.size ≤ 200 ∧ a = .string s')
  case first =>
    by_cases h : s.size ≤ 200
    · have g : decide (200 < s.size) = false := by simpa using h
      go_wp2
      go_meet
      case rel => exact ⟨rfl, s, h, rfl⟩
    · have g : decide (200 < s.size) = true := by simpa using h
      have g2 : (200 : Int) ≤ s.size := by omega
      go_wp2
      go_meet
      case rel => exact ⟨rfl, s.extract 0 200, by simp only [ByteArray.size_extract]; omega, rfl⟩
  case rest =>
  obtain ⟨rfl, s', hs', rfl⟩ := hcut
  clear hs
  go_wp2
  go_loopg [9, 10] (s'.size + 1) (fun gh b i wr => ∃ j : Nat, Hid (j + gh = s'.size + 1) ∧ b = .bool (spl A B (bl s') j) ∧ i = .int .i64 j ∧ Hid (Below w.heap.size w wr))
  case atStart => exact ⟨0, Nat.zero_add _, rfl, rfl, HB3.out⟩
  case round =>
    obtain ⟨j, HG, rfl, rfl, HB⟩ := hrel
    have hj : j ≤ s'.size + 1 := by have := HG.out; omega
    by_cases hlt : j ≤ s'.size
    · have HS := Lib.hid (spl_succ A B (bl s') j)
      obtain ⟨T, hT⟩ : ∃ T, spl A B (bl s') j = T := ⟨_, rfl⟩
      rw [hT] at HS ⊢
      have hI : (j : Int) ≤ s'.size := by omega
      have z1 : (s'.extract 0 j).size ≤ 1000 := by rw [ByteArray.size_extract]; omega
      have z2 : (s'.extract j s'.size).size ≤ 1000 := by rw [ByteArray.size_extract]; omega
      obtain ⟨X, hX⟩ : ∃ X, means A ((bl s').take j) = X := ⟨_, rfl⟩
      obtain ⟨Y, hY⟩ : ∃ Y, means B ((bl s').drop j) = Y := ⟨_, rfl⟩
      have HX := Lib.hid (fun w' => HMA.out (s'.extract 0 j) X w' z1 (by rw [bl_extract]; exact hX))
      have HY := Lib.hid (fun w' => HMB.out (s'.extract j s'.size) Y w' z2 (by rw [bl_extract, List.take_of_length_le (by rw [bl_len]; exact Nat.le_refl _)]; exact hY))
      rw [hX, hY] at HS
      clear hT hX hY z1 z2
      cases T with
      | true =>
        go_wp2
        go_roundg (s'.size + 1 - (j + 1))
        case measure => have := HG.out; omega
        case rel => exact ⟨j + 1, by show _ = _; omega, by rw [HS.out]; rfl, by go_num, HB⟩
      | false =>
        cases X with
        | false =>
          go_wp2_with fail
          refine (HX.out _).mono ?_
          rintro e w4 ⟨rfl, m4, rfl⟩
          have HB4 := Lib.hid (below_drewZ HB.out m4)
          go_wp2_with fail
          go_roundg (s'.size + 1 - (j + 1))
          case measure => have := HG.out; omega
          case rel => exact ⟨j + 1, by show _ = _; omega, by rw [HS.out]; rfl, by go_num, HB4⟩
        | true =>
          go_wp2_with fail
          refine (HX.out _).mono ?_
          rintro e w4 ⟨rfl, m4, rfl⟩
          have HB4 := Lib.hid (below_drewZ HB.out m4)
          obtain ⟨w4, hw4⟩ : ∃ w4, wr.drewN m4 = w4 := ⟨_, rfl⟩
          rw [hw4] at HB4 ⊢
          clear hw4
          go_wp2_with fail
          refine (HY.out _).mono ?_
          rintro e w5 ⟨rfl, m5, rfl⟩
          have HB5 := Lib.hid (below_drewZ HB4.out m5)
          go_wp2_with fail
          go_roundg (s'.size + 1 - (j + 1))
          case measure => have := HG.out; omega
          case rel => exact ⟨j + 1, by show _ = _; omega, by rw [HS.out]; rfl, by go_num, HB5⟩
    · have hje : j = s'.size + 1 := by omega
      have he : spl A B (bl s') j = means (A ++ B) (bl s') := by rw [hje, ← bl_len]; exact spl_end A B (bl s')
      obtain ⟨T, hT⟩ : ∃ T, means (A ++ B) (bl s') = T := ⟨_, rfl⟩
      rw [he, hT]
      have HF := Lib.hid (fun w' => HMAB.out s' T w' (by omega) hT)
      have gT : (T == T) = true := by cases T <;> rfl
      have hI : ¬ ((j : Int) ≤ s'.size) := by omega
      have hsz : pa.size + pb.size ≤ 9223372036854775807 := by omega
      clear he hT hje
      go_wp2_with (refine wpl_concat rfl _ _ _ _ rfl _ _ rfl rfl hsz ?_)
      refine (HF.out _).mono ?_
      rintro e w4 ⟨rfl, m4, rfl⟩
      have HB4 := Lib.hid (below_drewZ HB.out m4)
      go_wp2_with fail
      go_ret
      exact ⟨rfl, HB4.out⟩
end Go.Proofs.YthiamkfghnopgaaDoor

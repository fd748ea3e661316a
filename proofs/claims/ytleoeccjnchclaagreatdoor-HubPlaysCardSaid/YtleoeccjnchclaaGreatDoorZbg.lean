/- pantrylaw25's plays of no hub. No condition but sizes. -/
import Derived.Test.YtleoeccjnchclaaGreatDoorZbd
import Derived.Test.YtleoeccjnchclaaGreatDoorZba
import Derived.Test.YtleoeccjnchclaaGreatDoorZba
import Derived.StillTailTactics
namespace Go.Proofs.YtleoeccjnchclaaGreatDoor
open Go.RowKit
set_option maxRecDepth 100000 in
set_option maxHeartbeats 4000000 in
theorem playsN0_any (w : World) (who ses : Int) (k text : ByteArray) (big : Int) (hk : k.size ≤ 140737488355328) (hb : -9223372036854775808 ≤ big) :
    Calls Tryz.prog 6 #[.pointer none, .pointer none, .agg #[.int .i64 who, .int .i64 0, .int .i64 ses, .string k, .string text, .int .i64 big]] w fun e w' => e = .returned (.bool true) ∧ Fr (fun _ => False) w w' := by
  obtain ⟨w1, hw1⟩ : ∃ x, w.alloc (.cells #[.int .i64 who, .int .i64 0, .int .i64 ses, .string k, .string text, .int .i64 big] 28) = x := ⟨_, rfl⟩
  have hq1 : Fr (fun _ => False) w w1 := by rw [← hw1]; exact Fr.alloc _ _ _
  have hblk : w1.heap[w.heap.size]? = some (.cells #[.int .i64 who, .int .i64 0, .int .i64 ses, .string k, .string text, .int .i64 big] 28 (0, 0)) := by rw [← hw1]; exact alloc_at w _
  have HCL : Hid (∀ (i : Nat) (u : Value) (W : World), Fr (fun _ => False) w1 W → (#[.int .i64 who, .int .i64 0, .int .i64 ses, .string k, .string text, .int .i64 big] : Array Value)[i]? = some u → W.cell? ⟨w.heap.size, i, none⟩ = some u) := fun i u W hW hu => by
    rw [cell_of_blk (blk_later hblk hW (fun h => h)) i]; exact hu
  have d0 := HCL.out 0 _ _ (Fr.refl _ _) rfl
  have d1 := HCL.out 1 _ _ (Fr.refl _ _) rfl
  have d2 := HCL.out 2 _ _ (Fr.refl _ _) rfl
  have d3 := HCL.out 3 _ _ (Fr.refl _ _) rfl
  have d4 := HCL.out 4 _ _ (Fr.refl _ _) rfl
  have d5 := HCL.out 5 _ _ (Fr.refl _ _) rfl
  have HQ1 := Lib.hid hq1
  have HW1 := Lib.hid hw1
  clear hq1 hblk hw1
  go_enter Tryz.func6, Tryz.ntmps6
  go_upto_region 1 with (fail)
  rw [HW1.out]
  go_upto_region 4 with (fail)
  go_cut [7, 8] from 32 to 40 (fun t7 t8 wx => (t7 = .int .i64 0 ∧ t8 = .int .i64 1) ∧ Hid (Fr (fun _ => False) w1 wx))
  case first =>
    go_region_law (first
      | (go_simp; go_at_call 8; ((with_reducible refine (name25_any _ who 0 ses k text big hk hb).mono ?_); rintro e wn ⟨rfl, hfn⟩; have hST : Fr (fun _ => False) w1 wn := Fr.wide (by first | assumption | exact Fr.refl _ _ | exact Fr.drew (fun _ => False) _ | exact (Fr.drew (fun _ => False) w1).mono (fun _ h _ => h) | exact Fr.wide (by assumption) (Fr.drew (fun _ => False) _) (fun _ h => h.elim)) hfn (fun _ h => h.elim); have s0 := HCL.out 0 _ _ hST rfl; have s1 := HCL.out 1 _ _ hST rfl; have s2 := HCL.out 2 _ _ hST rfl; have s3 := HCL.out 3 _ _ hST rfl; have s4 := HCL.out 4 _ _ hST rfl; have s5 := HCL.out 5 _ _ hST rfl; clear hfn; dsimp only))
      | (go_simp; go_at_call 7; ((with_reducible refine (nrListen_any _ ses (nameS k big)).mono ?_); rintro e wn ⟨rfl, hfn⟩; have hST : Fr (fun _ => False) w1 wn := Fr.wide (by first | assumption | exact Fr.refl _ _ | exact Fr.drew (fun _ => False) _ | exact (Fr.drew (fun _ => False) w1).mono (fun _ h _ => h) | exact Fr.wide (by assumption) (Fr.drew (fun _ => False) _) (fun _ h => h.elim)) hfn (fun _ h => h.elim); have s0 := HCL.out 0 _ _ hST rfl; have s1 := HCL.out 1 _ _ hST rfl; have s2 := HCL.out 2 _ _ hST rfl; have s3 := HCL.out 3 _ _ hST rfl; have s4 := HCL.out 4 _ _ hST rfl; have s5 := HCL.out 5 _ _ hST rfl; clear hfn; dsimp only)))
    all_goals
      go_wp2
      go_meet
      case rel => exact ⟨⟨rfl, rfl⟩, (by first | assumption | exact Fr.refl _ _ | exact Fr.drew (fun _ => False) _ | exact (Fr.drew (fun _ => False) w1).mono (fun _ h _ => h) | exact Fr.wide (by assumption) (Fr.drew (fun _ => False) _) (fun _ h => h.elim))⟩
  case rest =>
  obtain ⟨⟨rfl, rfl⟩, HA⟩ := hcut
  clear d0 d1 d2 d3 d4 d5
  have d0 := HCL.out 0 _ _ HA.out rfl
  have d1 := HCL.out 1 _ _ HA.out rfl
  have d2 := HCL.out 2 _ _ HA.out rfl
  have d3 := HCL.out 3 _ _ HA.out rfl
  have d4 := HCL.out 4 _ _ HA.out rfl
  have d5 := HCL.out 5 _ _ HA.out rfl
  have hST0 := HA.out
  go_upto_region 5 with (fail)
  go_cut [9, 10] from 41 to 49 (fun t9 t10 wx => (t9 = .int .i64 0 ∧ t10 = .int .i64 1) ∧ Hid (Fr (fun _ => False) w1 wx))
  case first =>
    go_region_law (first
      | (go_simp; go_at_call 8; ((with_reducible refine (name25_any _ who 0 ses k text big hk hb).mono ?_); rintro e wn ⟨rfl, hfn⟩; have hST : Fr (fun _ => False) w1 wn := Fr.wide (by first | assumption | exact Fr.refl _ _ | exact Fr.drew (fun _ => False) _ | exact (Fr.drew (fun _ => False) wc).mono (fun _ h _ => h) | exact Fr.wide (by assumption) (Fr.drew (fun _ => False) _) (fun _ h => h.elim)) hfn (fun _ h => h.elim); have s0 := HCL.out 0 _ _ hST rfl; have s1 := HCL.out 1 _ _ hST rfl; have s2 := HCL.out 2 _ _ hST rfl; have s3 := HCL.out 3 _ _ hST rfl; have s4 := HCL.out 4 _ _ hST rfl; have s5 := HCL.out 5 _ _ hST rfl; clear hfn; dsimp only))
      | (go_simp; go_at_call 9; ((with_reducible refine (nilListen_any _ ses (nameS k big)).mono ?_); rintro e wn ⟨rfl, rfl⟩; dsimp only)))
    all_goals
      go_wp2
      go_meet
      case rel => exact ⟨⟨rfl, rfl⟩, (by first | assumption | exact Fr.refl _ _ | exact Fr.drew (fun _ => False) _ | exact (Fr.drew (fun _ => False) wc).mono (fun _ h _ => h) | exact Fr.wide (by assumption) (Fr.drew (fun _ => False) _) (fun _ h => h.elim))⟩
  case rest =>
  obtain ⟨⟨rfl, rfl⟩, HE⟩ := hcut
  clear d0 d1 d2 d3 d4 d5
  have d0 := HCL.out 0 _ _ HE.out rfl
  have d1 := HCL.out 1 _ _ HE.out rfl
  have d2 := HCL.out 2 _ _ HE.out rfl
  have d3 := HCL.out 3 _ _ HE.out rfl
  have d4 := HCL.out 4 _ _ HE.out rfl
  have d5 := HCL.out 5 _ _ HE.out rfl
  have hST0 := HE.out
  go_wp2
  go_ret
  exact ⟨by first | rfl | simp, HQ1.out.wide HE.out (fun _ h => h.elim)⟩
set_option maxRecDepth 100000 in
set_option maxHeartbeats 4000000 in
theorem playsN1_any (w : World) (who ses : Int) (k text : ByteArray) (big : Int) (hk : k.size ≤ 140737488355328) (hb : -9223372036854775808 ≤ big) :
    Calls Tryz.prog 6 #[.pointer none, .pointer none, .agg #[.int .i64 who, .int .i64 1, .int .i64 ses, .string k, .string text, .int .i64 big]] w fun e w' => e = .returned (.bool true) ∧ Fr (fun _ => False) w w' := by
  obtain ⟨w1, hw1⟩ : ∃ x, w.alloc (.cells #[.int .i64 who, .int .i64 1, .int .i64 ses, .string k, .string text, .int .i64 big] 28) = x := ⟨_, rfl⟩
  have hq1 : Fr (fun _ => False) w w1 := by rw [← hw1]; exact Fr.alloc _ _ _
  have hblk : w1.heap[w.heap.size]? = some (.cells #[.int .i64 who, .int .i64 1, .int .i64 ses, .string k, .string text, .int .i64 big] 28 (0, 0)) := by rw [← hw1]; exact alloc_at w _
  have HCL : Hid (∀ (i : Nat) (u : Value) (W : World), Fr (fun _ => False) w1 W → (#[.int .i64 who, .int .i64 1, .int .i64 ses, .string k, .string text, .int .i64 big] : Array Value)[i]? = some u → W.cell? ⟨w.heap.size, i, none⟩ = some u) := fun i u W hW hu => by
    rw [cell_of_blk (blk_later hblk hW (fun h => h)) i]; exact hu
  have d0 := HCL.out 0 _ _ (Fr.refl _ _) rfl
  have d1 := HCL.out 1 _ _ (Fr.refl _ _) rfl
  have d2 := HCL.out 2 _ _ (Fr.refl _ _) rfl
  have d3 := HCL.out 3 _ _ (Fr.refl _ _) rfl
  have d4 := HCL.out 4 _ _ (Fr.refl _ _) rfl
  have d5 := HCL.out 5 _ _ (Fr.refl _ _) rfl
  have HQ1 := Lib.hid hq1
  have HW1 := Lib.hid hw1
  clear hq1 hblk hw1
  go_enter Tryz.func6, Tryz.ntmps6
  go_upto_region 1 with (fail)
  rw [HW1.out]
  go_upto_region 4 with (fail)
  go_cut [7, 8] from 32 to 40 (fun t7 t8 wx => (t7 = .int .i64 0 ∧ t8 = .int .i64 1) ∧ Hid (Fr (fun _ => False) w1 wx))
  case first =>
    go_region_law (first
      | (go_simp; go_at_call 8; ((with_reducible refine (name25_any _ who 1 ses k text big hk hb).mono ?_); rintro e wn ⟨rfl, hfn⟩; have hST : Fr (fun _ => False) w1 wn := Fr.wide (by first | assumption | exact Fr.refl _ _ | exact Fr.drew (fun _ => False) _ | exact (Fr.drew (fun _ => False) w1).mono (fun _ h _ => h) | exact Fr.wide (by assumption) (Fr.drew (fun _ => False) _) (fun _ h => h.elim)) hfn (fun _ h => h.elim); have s0 := HCL.out 0 _ _ hST rfl; have s1 := HCL.out 1 _ _ hST rfl; have s2 := HCL.out 2 _ _ hST rfl; have s3 := HCL.out 3 _ _ hST rfl; have s4 := HCL.out 4 _ _ hST rfl; have s5 := HCL.out 5 _ _ hST rfl; clear hfn; dsimp only))
      | (go_simp; go_at_call 7; ((with_reducible refine (nrListen_any _ ses (nameS k big)).mono ?_); rintro e wn ⟨rfl, hfn⟩; have hST : Fr (fun _ => False) w1 wn := Fr.wide (by first | assumption | exact Fr.refl _ _ | exact Fr.drew (fun _ => False) _ | exact (Fr.drew (fun _ => False) w1).mono (fun _ h _ => h) | exact Fr.wide (by assumption) (Fr.drew (fun _ => False) _) (fun _ h => h.elim)) hfn (fun _ h => h.elim); have s0 := HCL.out 0 _ _ hST rfl; have s1 := HCL.out 1 _ _ hST rfl; have s2 := HCL.out 2 _ _ hST rfl; have s3 := HCL.out 3 _ _ hST rfl; have s4 := HCL.out 4 _ _ hST rfl; have s5 := HCL.out 5 _ _ hST rfl; clear hfn; dsimp only)))
    all_goals
      go_wp2
      go_meet
      case rel => exact ⟨⟨rfl, rfl⟩, (by first | assumption | exact Fr.refl _ _ | exact Fr.drew (fun _ => False) _ | exact (Fr.drew (fun _ => False) w1).mono (fun _ h _ => h) | exact Fr.wide (by assumption) (Fr.drew (fun _ => False) _) (fun _ h => h.elim))⟩
  case rest =>
  obtain ⟨⟨rfl, rfl⟩, HA⟩ := hcut
  clear d0 d1 d2 d3 d4 d5
  have d0 := HCL.out 0 _ _ HA.out rfl
  have d1 := HCL.out 1 _ _ HA.out rfl
  have d2 := HCL.out 2 _ _ HA.out rfl
  have d3 := HCL.out 3 _ _ HA.out rfl
  have d4 := HCL.out 4 _ _ HA.out rfl
  have d5 := HCL.out 5 _ _ HA.out rfl
  have hST0 := HA.out
  go_upto_region 5 with (fail)
  go_cut [9, 10] from 41 to 49 (fun t9 t10 wx => (t9 = .int .i64 0 ∧ t10 = .int .i64 1) ∧ Hid (Fr (fun _ => False) w1 wx))
  case first =>
    go_region_law (first
      | (go_simp; go_at_call 8; ((with_reducible refine (name25_any _ who 1 ses k text big hk hb).mono ?_); rintro e wn ⟨rfl, hfn⟩; have hST : Fr (fun _ => False) w1 wn := Fr.wide (by first | assumption | exact Fr.refl _ _ | exact Fr.drew (fun _ => False) _ | exact (Fr.drew (fun _ => False) wc).mono (fun _ h _ => h) | exact Fr.wide (by assumption) (Fr.drew (fun _ => False) _) (fun _ h => h.elim)) hfn (fun _ h => h.elim); have s0 := HCL.out 0 _ _ hST rfl; have s1 := HCL.out 1 _ _ hST rfl; have s2 := HCL.out 2 _ _ hST rfl; have s3 := HCL.out 3 _ _ hST rfl; have s4 := HCL.out 4 _ _ hST rfl; have s5 := HCL.out 5 _ _ hST rfl; clear hfn; dsimp only))
      | (go_simp; go_at_call 9; ((with_reducible refine (nilListen_any _ ses (nameS k big)).mono ?_); rintro e wn ⟨rfl, rfl⟩; dsimp only)))
    all_goals
      go_wp2
      go_meet
      case rel => exact ⟨⟨rfl, rfl⟩, (by first | assumption | exact Fr.refl _ _ | exact Fr.drew (fun _ => False) _ | exact (Fr.drew (fun _ => False) wc).mono (fun _ h _ => h) | exact Fr.wide (by assumption) (Fr.drew (fun _ => False) _) (fun _ h => h.elim))⟩
  case rest =>
  obtain ⟨⟨rfl, rfl⟩, HE⟩ := hcut
  clear d0 d1 d2 d3 d4 d5
  have d0 := HCL.out 0 _ _ HE.out rfl
  have d1 := HCL.out 1 _ _ HE.out rfl
  have d2 := HCL.out 2 _ _ HE.out rfl
  have d3 := HCL.out 3 _ _ HE.out rfl
  have d4 := HCL.out 4 _ _ HE.out rfl
  have d5 := HCL.out 5 _ _ HE.out rfl
  have hST0 := HE.out
  go_wp2
  go_ret
  exact ⟨by first | rfl | simp, HQ1.out.wide HE.out (fun _ h => h.elim)⟩
set_option maxRecDepth 100000 in
set_option maxHeartbeats 4000000 in
theorem playsN2_any (w : World) (who ses : Int) (k text : ByteArray) (big : Int) (hk : k.size ≤ 140737488355328) (hb : -9223372036854775808 ≤ big) :
    Calls Tryz.prog 6 #[.pointer none, .pointer none, .agg #[.int .i64 who, .int .i64 2, .int .i64 ses, .string k, .string text, .int .i64 big]] w fun e w' => e = .returned (.bool true) ∧ Fr (fun _ => False) w w' := by
  obtain ⟨w1, hw1⟩ : ∃ x, w.alloc (.cells #[.int .i64 who, .int .i64 2, .int .i64 ses, .string k, .string text, .int .i64 big] 28) = x := ⟨_, rfl⟩
  have hq1 : Fr (fun _ => False) w w1 := by rw [← hw1]; exact Fr.alloc _ _ _
  have hblk : w1.heap[w.heap.size]? = some (.cells #[.int .i64 who, .int .i64 2, .int .i64 ses, .string k, .string text, .int .i64 big] 28 (0, 0)) := by rw [← hw1]; exact alloc_at w _
  have HCL : Hid (∀ (i : Nat) (u : Value) (W : World), Fr (fun _ => False) w1 W → (#[.int .i64 who, .int .i64 2, .int .i64 ses, .string k, .string text, .int .i64 big] : Array Value)[i]? = some u → W.cell? ⟨w.heap.size, i, none⟩ = some u) := fun i u W hW hu => by
    rw [cell_of_blk (blk_later hblk hW (fun h => h)) i]; exact hu
  have d0 := HCL.out 0 _ _ (Fr.refl _ _) rfl
  have d1 := HCL.out 1 _ _ (Fr.refl _ _) rfl
  have d2 := HCL.out 2 _ _ (Fr.refl _ _) rfl
  have d3 := HCL.out 3 _ _ (Fr.refl _ _) rfl
  have d4 := HCL.out 4 _ _ (Fr.refl _ _) rfl
  have d5 := HCL.out 5 _ _ (Fr.refl _ _) rfl
  have HQ1 := Lib.hid hq1
  have HW1 := Lib.hid hw1
  clear hq1 hblk hw1
  go_enter Tryz.func6, Tryz.ntmps6
  go_upto_region 1 with (fail)
  rw [HW1.out]
  go_upto_region 8 with (fail)
  go_cut [11, 12] from 60 to 68 (fun t11 t12 wx => (t11 = .int .i64 0 ∧ t12 = .int .i64 1) ∧ Hid (Fr (fun _ => False) w1 wx))
  case first =>
    go_region_law (first
      | (go_simp; go_at_call 8; ((with_reducible refine (name25_any _ who 2 ses k text big hk hb).mono ?_); rintro e wn ⟨rfl, hfn⟩; have hST : Fr (fun _ => False) w1 wn := Fr.wide (by first | assumption | exact Fr.refl _ _ | exact Fr.drew (fun _ => False) _ | exact (Fr.drew (fun _ => False) w1).mono (fun _ h _ => h) | exact Fr.wide (by assumption) (Fr.drew (fun _ => False) _) (fun _ h => h.elim)) hfn (fun _ h => h.elim); have s0 := HCL.out 0 _ _ hST rfl; have s1 := HCL.out 1 _ _ hST rfl; have s2 := HCL.out 2 _ _ hST rfl; have s3 := HCL.out 3 _ _ hST rfl; have s4 := HCL.out 4 _ _ hST rfl; have s5 := HCL.out 5 _ _ hST rfl; clear hfn; dsimp only))
      | (go_simp; go_at_call 10; ((with_reducible refine (nrLike_any _ ses (nameS k big)).mono ?_); rintro e wn ⟨rfl, hfn⟩; have hST : Fr (fun _ => False) w1 wn := Fr.wide (by first | assumption | exact Fr.refl _ _ | exact Fr.drew (fun _ => False) _ | exact (Fr.drew (fun _ => False) w1).mono (fun _ h _ => h) | exact Fr.wide (by assumption) (Fr.drew (fun _ => False) _) (fun _ h => h.elim)) hfn (fun _ h => h.elim); have s0 := HCL.out 0 _ _ hST rfl; have s1 := HCL.out 1 _ _ hST rfl; have s2 := HCL.out 2 _ _ hST rfl; have s3 := HCL.out 3 _ _ hST rfl; have s4 := HCL.out 4 _ _ hST rfl; have s5 := HCL.out 5 _ _ hST rfl; clear hfn; dsimp only)))
    all_goals
      go_wp2
      go_meet
      case rel => exact ⟨⟨rfl, rfl⟩, (by first | assumption | exact Fr.refl _ _ | exact Fr.drew (fun _ => False) _ | exact (Fr.drew (fun _ => False) w1).mono (fun _ h _ => h) | exact Fr.wide (by assumption) (Fr.drew (fun _ => False) _) (fun _ h => h.elim))⟩
  case rest =>
  obtain ⟨⟨rfl, rfl⟩, HA⟩ := hcut
  clear d0 d1 d2 d3 d4 d5
  have d0 := HCL.out 0 _ _ HA.out rfl
  have d1 := HCL.out 1 _ _ HA.out rfl
  have d2 := HCL.out 2 _ _ HA.out rfl
  have d3 := HCL.out 3 _ _ HA.out rfl
  have d4 := HCL.out 4 _ _ HA.out rfl
  have d5 := HCL.out 5 _ _ HA.out rfl
  have hST0 := HA.out
  go_upto_region 9 with (fail)
  go_cut [13, 14] from 69 to 77 (fun t13 t14 wx => (t13 = .int .i64 0 ∧ t14 = .int .i64 1) ∧ Hid (Fr (fun _ => False) w1 wx))
  case first =>
    go_region_law (first
      | (go_simp; go_at_call 8; ((with_reducible refine (name25_any _ who 2 ses k text big hk hb).mono ?_); rintro e wn ⟨rfl, hfn⟩; have hST : Fr (fun _ => False) w1 wn := Fr.wide (by first | assumption | exact Fr.refl _ _ | exact Fr.drew (fun _ => False) _ | exact (Fr.drew (fun _ => False) wc).mono (fun _ h _ => h) | exact Fr.wide (by assumption) (Fr.drew (fun _ => False) _) (fun _ h => h.elim)) hfn (fun _ h => h.elim); have s0 := HCL.out 0 _ _ hST rfl; have s1 := HCL.out 1 _ _ hST rfl; have s2 := HCL.out 2 _ _ hST rfl; have s3 := HCL.out 3 _ _ hST rfl; have s4 := HCL.out 4 _ _ hST rfl; have s5 := HCL.out 5 _ _ hST rfl; clear hfn; dsimp only))
      | (go_simp; go_at_call 11; ((with_reducible refine (nilLike_any _ ses (nameS k big)).mono ?_); rintro e wn ⟨rfl, rfl⟩; dsimp only)))
    all_goals
      go_wp2
      go_meet
      case rel => exact ⟨⟨rfl, rfl⟩, (by first | assumption | exact Fr.refl _ _ | exact Fr.drew (fun _ => False) _ | exact (Fr.drew (fun _ => False) wc).mono (fun _ h _ => h) | exact Fr.wide (by assumption) (Fr.drew (fun _ => False) _) (fun _ h => h.elim))⟩
  case rest =>
  obtain ⟨⟨rfl, rfl⟩, HE⟩ := hcut
  clear d0 d1 d2 d3 d4 d5
  have d0 := HCL.out 0 _ _ HE.out rfl
  have d1 := HCL.out 1 _ _ HE.out rfl
  have d2 := HCL.out 2 _ _ HE.out rfl
  have d3 := HCL.out 3 _ _ HE.out rfl
  have d4 := HCL.out 4 _ _ HE.out rfl
  have d5 := HCL.out 5 _ _ HE.out rfl
  have hST0 := HE.out
  go_wp2
  go_ret
  exact ⟨by first | rfl | simp, HQ1.out.wide HE.out (fun _ h => h.elim)⟩
set_option maxRecDepth 100000 in
set_option maxHeartbeats 4000000 in
theorem playsN3_any (w : World) (who ses : Int) (k text : ByteArray) (big : Int) (hk : k.size ≤ 140737488355328) (hb : -9223372036854775808 ≤ big) :
    Calls Tryz.prog 6 #[.pointer none, .pointer none, .agg #[.int .i64 who, .int .i64 3, .int .i64 ses, .string k, .string text, .int .i64 big]] w fun e w' => e = .returned (.bool true) ∧ Fr (fun _ => False) w w' := by
  obtain ⟨w1, hw1⟩ : ∃ x, w.alloc (.cells #[.int .i64 who, .int .i64 3, .int .i64 ses, .string k, .string text, .int .i64 big] 28) = x := ⟨_, rfl⟩
  have hq1 : Fr (fun _ => False) w w1 := by rw [← hw1]; exact Fr.alloc _ _ _
  have hblk : w1.heap[w.heap.size]? = some (.cells #[.int .i64 who, .int .i64 3, .int .i64 ses, .string k, .string text, .int .i64 big] 28 (0, 0)) := by rw [← hw1]; exact alloc_at w _
  have HCL : Hid (∀ (i : Nat) (u : Value) (W : World), Fr (fun _ => False) w1 W → (#[.int .i64 who, .int .i64 3, .int .i64 ses, .string k, .string text, .int .i64 big] : Array Value)[i]? = some u → W.cell? ⟨w.heap.size, i, none⟩ = some u) := fun i u W hW hu => by
    rw [cell_of_blk (blk_later hblk hW (fun h => h)) i]; exact hu
  have d0 := HCL.out 0 _ _ (Fr.refl _ _) rfl
  have d1 := HCL.out 1 _ _ (Fr.refl _ _) rfl
  have d2 := HCL.out 2 _ _ (Fr.refl _ _) rfl
  have d3 := HCL.out 3 _ _ (Fr.refl _ _) rfl
  have d4 := HCL.out 4 _ _ (Fr.refl _ _) rfl
  have d5 := HCL.out 5 _ _ (Fr.refl _ _) rfl
  have HQ1 := Lib.hid hq1
  have HW1 := Lib.hid hw1
  clear hq1 hblk hw1
  go_enter Tryz.func6, Tryz.ntmps6
  go_upto_region 1 with (fail)
  rw [HW1.out]
  go_upto_region 12 with (fail)
  go_cut [15] from 88 to 93 (fun t15 wx => t15 = .int .i64 0 ∧ Hid (Fr (fun _ => False) w1 wx))
  case first =>
    go_region_law (first
      | (go_simp; go_at_call 8; ((with_reducible refine (name25_any _ who 3 ses k text big hk hb).mono ?_); rintro e wn ⟨rfl, hfn⟩; have hST : Fr (fun _ => False) w1 wn := Fr.wide (by first | assumption | exact Fr.refl _ _ | exact Fr.drew (fun _ => False) _ | exact (Fr.drew (fun _ => False) w1).mono (fun _ h _ => h) | exact Fr.wide (by assumption) (Fr.drew (fun _ => False) _) (fun _ h => h.elim)) hfn (fun _ h => h.elim); have s0 := HCL.out 0 _ _ hST rfl; have s1 := HCL.out 1 _ _ hST rfl; have s2 := HCL.out 2 _ _ hST rfl; have s3 := HCL.out 3 _ _ hST rfl; have s4 := HCL.out 4 _ _ hST rfl; have s5 := HCL.out 5 _ _ hST rfl; clear hfn; dsimp only))
      | (go_simp; go_at_call 12; ((with_reducible refine (nrLeave_any _ ses (nameS k big)).mono ?_); rintro e wn ⟨rfl, hfn⟩; have hST : Fr (fun _ => False) w1 wn := Fr.wide (by first | assumption | exact Fr.refl _ _ | exact Fr.drew (fun _ => False) _ | exact (Fr.drew (fun _ => False) w1).mono (fun _ h _ => h) | exact Fr.wide (by assumption) (Fr.drew (fun _ => False) _) (fun _ h => h.elim)) hfn (fun _ h => h.elim); have s0 := HCL.out 0 _ _ hST rfl; have s1 := HCL.out 1 _ _ hST rfl; have s2 := HCL.out 2 _ _ hST rfl; have s3 := HCL.out 3 _ _ hST rfl; have s4 := HCL.out 4 _ _ hST rfl; have s5 := HCL.out 5 _ _ hST rfl; clear hfn; dsimp only)))
    all_goals
      go_wp2
      go_meet
      case rel => exact ⟨rfl, (by first | assumption | exact Fr.refl _ _ | exact Fr.drew (fun _ => False) _ | exact (Fr.drew (fun _ => False) w1).mono (fun _ h _ => h) | exact Fr.wide (by assumption) (Fr.drew (fun _ => False) _) (fun _ h => h.elim))⟩
  case rest =>
  obtain ⟨rfl, HA⟩ := hcut
  clear d0 d1 d2 d3 d4 d5
  have d0 := HCL.out 0 _ _ HA.out rfl
  have d1 := HCL.out 1 _ _ HA.out rfl
  have d2 := HCL.out 2 _ _ HA.out rfl
  have d3 := HCL.out 3 _ _ HA.out rfl
  have d4 := HCL.out 4 _ _ HA.out rfl
  have d5 := HCL.out 5 _ _ HA.out rfl
  have hST0 := HA.out
  go_upto_region 13 with (fail)
  go_cut [6] from 94 to 101 (fun t6 wx => t6 = .bool true ∧ Hid (Fr (fun _ => False) w1 wx))
  case first =>
    go_region_law (first
      | (go_simp; go_at_call 8; ((with_reducible refine (name25_any _ who 3 ses k text big hk hb).mono ?_); rintro e wn ⟨rfl, hfn⟩; have hST : Fr (fun _ => False) w1 wn := Fr.wide (by first | assumption | exact Fr.refl _ _ | exact Fr.drew (fun _ => False) _ | exact (Fr.drew (fun _ => False) wc).mono (fun _ h _ => h) | exact Fr.wide (by assumption) (Fr.drew (fun _ => False) _) (fun _ h => h.elim)) hfn (fun _ h => h.elim); have s0 := HCL.out 0 _ _ hST rfl; have s1 := HCL.out 1 _ _ hST rfl; have s2 := HCL.out 2 _ _ hST rfl; have s3 := HCL.out 3 _ _ hST rfl; have s4 := HCL.out 4 _ _ hST rfl; have s5 := HCL.out 5 _ _ hST rfl; clear hfn; dsimp only))
      | (go_simp; go_at_call 13; ((with_reducible refine (nilLeave_any _ ses (nameS k big)).mono ?_); rintro e wn ⟨rfl, rfl⟩; dsimp only)))
    all_goals
      go_wp2
      go_meet
      case rel => exact ⟨by first | rfl | simp, (by first | assumption | exact Fr.refl _ _ | exact Fr.drew (fun _ => False) _ | exact (Fr.drew (fun _ => False) wc).mono (fun _ h _ => h) | exact Fr.wide (by assumption) (Fr.drew (fun _ => False) _) (fun _ h => h.elim))⟩
  case rest =>
  obtain ⟨rfl, HE⟩ := hcut
  clear d0 d1 d2 d3 d4 d5
  have d0 := HCL.out 0 _ _ HE.out rfl
  have d1 := HCL.out 1 _ _ HE.out rfl
  have d2 := HCL.out 2 _ _ HE.out rfl
  have d3 := HCL.out 3 _ _ HE.out rfl
  have d4 := HCL.out 4 _ _ HE.out rfl
  have d5 := HCL.out 5 _ _ HE.out rfl
  have hST0 := HE.out
  go_wp2
  go_ret
  exact ⟨rfl, HQ1.out.wide HE.out (fun _ h => h.elim)⟩
set_option maxRecDepth 100000 in
set_option maxHeartbeats 4000000 in
theorem playsN4_any (w : World) (who ses : Int) (k text : ByteArray) (big : Int) (hk : k.size ≤ 140737488355328) (hb : -9223372036854775808 ≤ big) :
    Calls Tryz.prog 6 #[.pointer none, .pointer none, .agg #[.int .i64 who, .int .i64 4, .int .i64 ses, .string k, .string text, .int .i64 big]] w fun e w' => e = .returned (.bool true) ∧ Fr (fun _ => False) w w' := by
  obtain ⟨w1, hw1⟩ : ∃ x, w.alloc (.cells #[.int .i64 who, .int .i64 4, .int .i64 ses, .string k, .string text, .int .i64 big] 28) = x := ⟨_, rfl⟩
  have hq1 : Fr (fun _ => False) w w1 := by rw [← hw1]; exact Fr.alloc _ _ _
  have hblk : w1.heap[w.heap.size]? = some (.cells #[.int .i64 who, .int .i64 4, .int .i64 ses, .string k, .string text, .int .i64 big] 28 (0, 0)) := by rw [← hw1]; exact alloc_at w _
  have HCL : Hid (∀ (i : Nat) (u : Value) (W : World), Fr (fun _ => False) w1 W → (#[.int .i64 who, .int .i64 4, .int .i64 ses, .string k, .string text, .int .i64 big] : Array Value)[i]? = some u → W.cell? ⟨w.heap.size, i, none⟩ = some u) := fun i u W hW hu => by
    rw [cell_of_blk (blk_later hblk hW (fun h => h)) i]; exact hu
  have d0 := HCL.out 0 _ _ (Fr.refl _ _) rfl
  have d1 := HCL.out 1 _ _ (Fr.refl _ _) rfl
  have d2 := HCL.out 2 _ _ (Fr.refl _ _) rfl
  have d3 := HCL.out 3 _ _ (Fr.refl _ _) rfl
  have d4 := HCL.out 4 _ _ (Fr.refl _ _) rfl
  have d5 := HCL.out 5 _ _ (Fr.refl _ _) rfl
  have HQ1 := Lib.hid hq1
  have HW1 := Lib.hid hw1
  clear hq1 hblk hw1
  go_enter Tryz.func6, Tryz.ntmps6
  go_upto_region 1 with (fail)
  rw [HW1.out]
  go_upto_region 15 with (fail)
  go_cut [16] from 104 to 109 (fun t16 wx => t16 = .int .i64 0 ∧ Hid (Fr (fun _ => False) w1 wx))
  case first =>
    go_region_law (first
      | (go_simp; go_at_call 8; ((with_reducible refine (name25_any _ who 4 ses k text big hk hb).mono ?_); rintro e wn ⟨rfl, hfn⟩; have hST : Fr (fun _ => False) w1 wn := Fr.wide (by first | assumption | exact Fr.refl _ _ | exact Fr.drew (fun _ => False) _ | exact (Fr.drew (fun _ => False) w1).mono (fun _ h _ => h) | exact Fr.wide (by assumption) (Fr.drew (fun _ => False) _) (fun _ h => h.elim)) hfn (fun _ h => h.elim); have s0 := HCL.out 0 _ _ hST rfl; have s1 := HCL.out 1 _ _ hST rfl; have s2 := HCL.out 2 _ _ hST rfl; have s3 := HCL.out 3 _ _ hST rfl; have s4 := HCL.out 4 _ _ hST rfl; have s5 := HCL.out 5 _ _ hST rfl; clear hfn; dsimp only))
      | (go_simp; go_at_call 14; ((with_reducible refine (nrLeaveLike_any _ ses (nameS k big)).mono ?_); rintro e wn ⟨rfl, hfn⟩; have hST : Fr (fun _ => False) w1 wn := Fr.wide (by first | assumption | exact Fr.refl _ _ | exact Fr.drew (fun _ => False) _ | exact (Fr.drew (fun _ => False) w1).mono (fun _ h _ => h) | exact Fr.wide (by assumption) (Fr.drew (fun _ => False) _) (fun _ h => h.elim)) hfn (fun _ h => h.elim); have s0 := HCL.out 0 _ _ hST rfl; have s1 := HCL.out 1 _ _ hST rfl; have s2 := HCL.out 2 _ _ hST rfl; have s3 := HCL.out 3 _ _ hST rfl; have s4 := HCL.out 4 _ _ hST rfl; have s5 := HCL.out 5 _ _ hST rfl; clear hfn; dsimp only)))
    all_goals
      go_wp2
      go_meet
      case rel => exact ⟨rfl, (by first | assumption | exact Fr.refl _ _ | exact Fr.drew (fun _ => False) _ | exact (Fr.drew (fun _ => False) w1).mono (fun _ h _ => h) | exact Fr.wide (by assumption) (Fr.drew (fun _ => False) _) (fun _ h => h.elim))⟩
  case rest =>
  obtain ⟨rfl, HA⟩ := hcut
  clear d0 d1 d2 d3 d4 d5
  have d0 := HCL.out 0 _ _ HA.out rfl
  have d1 := HCL.out 1 _ _ HA.out rfl
  have d2 := HCL.out 2 _ _ HA.out rfl
  have d3 := HCL.out 3 _ _ HA.out rfl
  have d4 := HCL.out 4 _ _ HA.out rfl
  have d5 := HCL.out 5 _ _ HA.out rfl
  have hST0 := HA.out
  go_upto_region 16 with (fail)
  go_cut [6] from 110 to 117 (fun t6 wx => t6 = .bool true ∧ Hid (Fr (fun _ => False) w1 wx))
  case first =>
    go_region_law (first
      | (go_simp; go_at_call 8; ((with_reducible refine (name25_any _ who 4 ses k text big hk hb).mono ?_); rintro e wn ⟨rfl, hfn⟩; have hST : Fr (fun _ => False) w1 wn := Fr.wide (by first | assumption | exact Fr.refl _ _ | exact Fr.drew (fun _ => False) _ | exact (Fr.drew (fun _ => False) wc).mono (fun _ h _ => h) | exact Fr.wide (by assumption) (Fr.drew (fun _ => False) _) (fun _ h => h.elim)) hfn (fun _ h => h.elim); have s0 := HCL.out 0 _ _ hST rfl; have s1 := HCL.out 1 _ _ hST rfl; have s2 := HCL.out 2 _ _ hST rfl; have s3 := HCL.out 3 _ _ hST rfl; have s4 := HCL.out 4 _ _ hST rfl; have s5 := HCL.out 5 _ _ hST rfl; clear hfn; dsimp only))
      | (go_simp; go_at_call 15; ((with_reducible refine (nilLeaveLike_any _ ses (nameS k big)).mono ?_); rintro e wn ⟨rfl, rfl⟩; dsimp only)))
    all_goals
      go_wp2
      go_meet
      case rel => exact ⟨by first | rfl | simp, (by first | assumption | exact Fr.refl _ _ | exact Fr.drew (fun _ => False) _ | exact (Fr.drew (fun _ => False) wc).mono (fun _ h _ => h) | exact Fr.wide (by assumption) (Fr.drew (fun _ => False) _) (fun _ h => h.elim))⟩
  case rest =>
  obtain ⟨rfl, HE⟩ := hcut
  clear d0 d1 d2 d3 d4 d5
  have d0 := HCL.out 0 _ _ HE.out rfl
  have d1 := HCL.out 1 _ _ HE.out rfl
  have d2 := HCL.out 2 _ _ HE.out rfl
  have d3 := HCL.out 3 _ _ HE.out rfl
  have d4 := HCL.out 4 _ _ HE.out rfl
  have d5 := HCL.out 5 _ _ HE.out rfl
  have hST0 := HE.out
  go_wp2
  go_ret
  exact ⟨rfl, HQ1.out.wide HE.out (fun _ h => h.elim)⟩
set_option maxRecDepth 100000 in
set_option maxHeartbeats 4000000 in
theorem playsN5_any (w : World) (who ses : Int) (k text : ByteArray) (big : Int) (hk : k.size ≤ 140737488355328) (hb : -9223372036854775808 ≤ big) :
    Calls Tryz.prog 6 #[.pointer none, .pointer none, .agg #[.int .i64 who, .int .i64 5, .int .i64 ses, .string k, .string text, .int .i64 big]] w fun e w' => e = .returned (.bool true) ∧ Fr (fun _ => False) w w' := by
  obtain ⟨w1, hw1⟩ : ∃ x, w.alloc (.cells #[.int .i64 who, .int .i64 5, .int .i64 ses, .string k, .string text, .int .i64 big] 28) = x := ⟨_, rfl⟩
  have hq1 : Fr (fun _ => False) w w1 := by rw [← hw1]; exact Fr.alloc _ _ _
  have hblk : w1.heap[w.heap.size]? = some (.cells #[.int .i64 who, .int .i64 5, .int .i64 ses, .string k, .string text, .int .i64 big] 28 (0, 0)) := by rw [← hw1]; exact alloc_at w _
  have HCL : Hid (∀ (i : Nat) (u : Value) (W : World), Fr (fun _ => False) w1 W → (#[.int .i64 who, .int .i64 5, .int .i64 ses, .string k, .string text, .int .i64 big] : Array Value)[i]? = some u → W.cell? ⟨w.heap.size, i, none⟩ = some u) := fun i u W hW hu => by
    rw [cell_of_blk (blk_later hblk hW (fun h => h)) i]; exact hu
  have d0 := HCL.out 0 _ _ (Fr.refl _ _) rfl
  have d1 := HCL.out 1 _ _ (Fr.refl _ _) rfl
  have d2 := HCL.out 2 _ _ (Fr.refl _ _) rfl
  have d3 := HCL.out 3 _ _ (Fr.refl _ _) rfl
  have d4 := HCL.out 4 _ _ (Fr.refl _ _) rfl
  have d5 := HCL.out 5 _ _ (Fr.refl _ _) rfl
  have HQ1 := Lib.hid hq1
  have HW1 := Lib.hid hw1
  clear hq1 hblk hw1
  go_enter Tryz.func6, Tryz.ntmps6
  go_upto_region 1 with (fail)
  rw [HW1.out]
  go_wp2_with fail
  refine (nrDrop_any _ ses).mono ?_
  rintro e wn ⟨⟨u, rfl⟩, rfl⟩
  go_wp2_with fail
  refine (nilDrop_any _ ses).mono ?_
  rintro e wn ⟨⟨u2, rfl⟩, rfl⟩
  go_wp2_with fail
  go_ret
  exact ⟨rfl, HQ1.out⟩
set_option maxRecDepth 100000 in
set_option maxHeartbeats 4000000 in
theorem playsN6_any (w : World) (who ses : Int) (k text : ByteArray) (big : Int) (hk : k.size ≤ 140737488355328) (hb : -9223372036854775808 ≤ big) :
    Calls Tryz.prog 6 #[.pointer none, .pointer none, .agg #[.int .i64 who, .int .i64 6, .int .i64 ses, .string k, .string text, .int .i64 big]] w fun e w' => e = .returned (.bool true) ∧ Fr (fun _ => False) w w' := by
  obtain ⟨w1, hw1⟩ : ∃ x, w.alloc (.cells #[.int .i64 who, .int .i64 6, .int .i64 ses, .string k, .string text, .int .i64 big] 28) = x := ⟨_, rfl⟩
  have hq1 : Fr (fun _ => False) w w1 := by rw [← hw1]; exact Fr.alloc _ _ _
  have hblk : w1.heap[w.heap.size]? = some (.cells #[.int .i64 who, .int .i64 6, .int .i64 ses, .string k, .string text, .int .i64 big] 28 (0, 0)) := by rw [← hw1]; exact alloc_at w _
  have HCL : Hid (∀ (i : Nat) (u : Value) (W : World), Fr (fun _ => False) w1 W → (#[.int .i64 who, .int .i64 6, .int .i64 ses, .string k, .string text, .int .i64 big] : Array Value)[i]? = some u → W.cell? ⟨w.heap.size, i, none⟩ = some u) := fun i u W hW hu => by
    rw [cell_of_blk (blk_later hblk hW (fun h => h)) i]; exact hu
  have d0 := HCL.out 0 _ _ (Fr.refl _ _) rfl
  have d1 := HCL.out 1 _ _ (Fr.refl _ _) rfl
  have d2 := HCL.out 2 _ _ (Fr.refl _ _) rfl
  have d3 := HCL.out 3 _ _ (Fr.refl _ _) rfl
  have d4 := HCL.out 4 _ _ (Fr.refl _ _) rfl
  have d5 := HCL.out 5 _ _ (Fr.refl _ _) rfl
  have HQ1 := Lib.hid hq1
  have HW1 := Lib.hid hw1
  clear hq1 hblk hw1
  go_enter Tryz.func6, Tryz.ntmps6
  go_upto_region 1 with (fail)
  rw [HW1.out]
  go_upto_region 21 with (fail)
  go_cut [17] from 130 to 135 (fun t17 wx => t17 = .slice none 0 0 ∧ Hid (Fr (fun _ => False) w1 wx))
  case first =>
    go_region_law (first
      | (go_simp; go_at_call 8; ((with_reducible refine (name25_any _ who 6 ses k text big hk hb).mono ?_); rintro e wn ⟨rfl, hfn⟩; have hST : Fr (fun _ => False) w1 wn := Fr.wide (by first | assumption | exact Fr.refl _ _ | exact Fr.drew (fun _ => False) _ | exact (Fr.drew (fun _ => False) w1).mono (fun _ h _ => h) | exact Fr.wide (by assumption) (Fr.drew (fun _ => False) _) (fun _ h => h.elim)) hfn (fun _ h => h.elim); have s0 := HCL.out 0 _ _ hST rfl; have s1 := HCL.out 1 _ _ hST rfl; have s2 := HCL.out 2 _ _ hST rfl; have s3 := HCL.out 3 _ _ hST rfl; have s4 := HCL.out 4 _ _ hST rfl; have s5 := HCL.out 5 _ _ hST rfl; clear hfn; dsimp only))
      | (go_simp; go_at_call 18; ((with_reducible refine (nrTell_any _ (nameS k big) text).mono ?_); rintro e wn ⟨rfl, rfl⟩; dsimp only)))
    all_goals
      go_wp2
      go_meet
      case rel => exact ⟨rfl, (by first | assumption | exact Fr.refl _ _ | exact Fr.drew (fun _ => False) _ | exact (Fr.drew (fun _ => False) w1).mono (fun _ h _ => h) | exact Fr.wide (by assumption) (Fr.drew (fun _ => False) _) (fun _ h => h.elim))⟩
  case rest =>
  obtain ⟨rfl, HA⟩ := hcut
  clear d0 d1 d2 d3 d4 d5
  have d0 := HCL.out 0 _ _ HA.out rfl
  have d1 := HCL.out 1 _ _ HA.out rfl
  have d2 := HCL.out 2 _ _ HA.out rfl
  have d3 := HCL.out 3 _ _ HA.out rfl
  have d4 := HCL.out 4 _ _ HA.out rfl
  have d5 := HCL.out 5 _ _ HA.out rfl
  have hST0 := HA.out
  go_upto_region 22 with (fail)
  go_cut [18] from 136 to 141 (fun t18 wx => t18 = .slice none 0 0 ∧ Hid (Fr (fun _ => False) w1 wx))
  case first =>
    go_region_law (first
      | (go_simp; go_at_call 8; ((with_reducible refine (name25_any _ who 6 ses k text big hk hb).mono ?_); rintro e wn ⟨rfl, hfn⟩; have hST : Fr (fun _ => False) w1 wn := Fr.wide (by first | assumption | exact Fr.refl _ _ | exact Fr.drew (fun _ => False) _ | exact (Fr.drew (fun _ => False) wc).mono (fun _ h _ => h) | exact Fr.wide (by assumption) (Fr.drew (fun _ => False) _) (fun _ h => h.elim)) hfn (fun _ h => h.elim); have s0 := HCL.out 0 _ _ hST rfl; have s1 := HCL.out 1 _ _ hST rfl; have s2 := HCL.out 2 _ _ hST rfl; have s3 := HCL.out 3 _ _ hST rfl; have s4 := HCL.out 4 _ _ hST rfl; have s5 := HCL.out 5 _ _ hST rfl; clear hfn; dsimp only))
      | (go_simp; go_at_call 19; ((with_reducible refine (nilTell_any _ (nameS k big) text).mono ?_); rintro e wn ⟨rfl, rfl⟩; dsimp only)))
    all_goals
      go_wp2
      go_meet
      case rel => exact ⟨rfl, (by first | assumption | exact Fr.refl _ _ | exact Fr.drew (fun _ => False) _ | exact (Fr.drew (fun _ => False) wc).mono (fun _ h _ => h) | exact Fr.wide (by assumption) (Fr.drew (fun _ => False) _) (fun _ h => h.elim))⟩
  case rest =>
  obtain ⟨rfl, HBB⟩ := hcut
  clear d0 d1 d2 d3 d4 d5
  have d0 := HCL.out 0 _ _ HBB.out rfl
  have d1 := HCL.out 1 _ _ HBB.out rfl
  have d2 := HCL.out 2 _ _ HBB.out rfl
  have d3 := HCL.out 3 _ _ HBB.out rfl
  have d4 := HCL.out 4 _ _ HBB.out rfl
  have d5 := HCL.out 5 _ _ HBB.out rfl
  have hST0 := HBB.out
  go_upto_region 23 with (fail)
  go_cut [19] from 142 to 147 (fun t19 wx => t19 = .slice none 0 0 ∧ Hid (Fr (fun _ => False) w1 wx))
  case first =>
    go_region_law (first
      | (go_simp; go_at_call 8; ((with_reducible refine (name25_any _ who 6 ses k text big hk hb).mono ?_); rintro e wn ⟨rfl, hfn⟩; have hST : Fr (fun _ => False) w1 wn := Fr.wide (by first | assumption | exact Fr.refl _ _ | exact Fr.drew (fun _ => False) _ | exact (Fr.drew (fun _ => False) wc).mono (fun _ h _ => h) | exact Fr.wide (by assumption) (Fr.drew (fun _ => False) _) (fun _ h => h.elim)) hfn (fun _ h => h.elim); have s0 := HCL.out 0 _ _ hST rfl; have s1 := HCL.out 1 _ _ hST rfl; have s2 := HCL.out 2 _ _ hST rfl; have s3 := HCL.out 3 _ _ hST rfl; have s4 := HCL.out 4 _ _ hST rfl; have s5 := HCL.out 5 _ _ hST rfl; clear hfn; dsimp only))
      | (go_simp; go_at_call 19; ((with_reducible refine (nilTell_any _ (nameS k big) text).mono ?_); rintro e wn ⟨rfl, rfl⟩; dsimp only)))
    all_goals
      go_wp2
      go_meet
      case rel => exact ⟨rfl, (by first | assumption | exact Fr.refl _ _ | exact Fr.drew (fun _ => False) _ | exact (Fr.drew (fun _ => False) wc).mono (fun _ h _ => h) | exact Fr.wide (by assumption) (Fr.drew (fun _ => False) _) (fun _ h => h.elim))⟩
  case rest =>
  obtain ⟨rfl, HC⟩ := hcut
  clear d0 d1 d2 d3 d4 d5
  have d0 := HCL.out 0 _ _ HC.out rfl
  have d1 := HCL.out 1 _ _ HC.out rfl
  have d2 := HCL.out 2 _ _ HC.out rfl
  have d3 := HCL.out 3 _ _ HC.out rfl
  have d4 := HCL.out 4 _ _ HC.out rfl
  have d5 := HCL.out 5 _ _ HC.out rfl
  have hST0 := HC.out
  go_wp2_with fail
  refine (sameOuts_any _ 0 0 none none 0 0 [] (OutsAt.nil _ _) (OutsAt.nil _ _) (fun _ h => by cases h) (by decide)).mono ?_
  rintro e wD ⟨rfl, hfD⟩
  have HD := Lib.hid (HC.out.wide hfD (fun _ h => h.elim))
  clear hfD
  go_wp2_with fail
  refine (sameOuts_any _ 0 0 none none 0 0 [] (OutsAt.nil _ _) (OutsAt.nil _ _) (fun _ h => by cases h) (by decide)).mono ?_
  rintro e wE ⟨rfl, hfE⟩
  have HE := Lib.hid (HD.out.wide hfE (fun _ h => h.elim))
  clear hfE
  go_wp2_with fail
  go_loopw [160] (fun i wr => i = .int .i64 0 ∧ Hid (Fr (fun _ => False) w1 wr)) (fun _ _ => 0)
  case atStart => exact ⟨rfl, HE⟩
  case round =>
    obtain ⟨rfl, HF⟩ := hrel
    go_wp2_with fail
    refine (sameOuts_any _ 0 0 none none 0 0 [] (OutsAt.nil _ _) (OutsAt.nil _ _) (fun _ h => by cases h) (by decide)).mono ?_
    rintro e wG ⟨rfl, hfG⟩
    have HG := Lib.hid (HF.out.wide hfG (fun _ h => h.elim))
    clear hfG
    go_wp2_with fail
    go_ret
    exact ⟨rfl, HQ1.out.wide HG.out (fun _ h => h.elim)⟩
end Go.Proofs.YtleoeccjnchclaaGreatDoor

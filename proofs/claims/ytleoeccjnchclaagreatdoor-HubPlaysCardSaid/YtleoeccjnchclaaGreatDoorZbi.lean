/- pantrylaw25's plays of no hub, the rest. No condition but sizes. -/
import Derived.Test.YtleoeccjnchclaaGreatDoorZbg
import Derived.Test.YtleoeccjnchclaaGreatDoorZbh
import Derived.StillTailTactics
namespace Go.Proofs.YtleoeccjnchclaaGreatDoor
open Go.RowKit
set_option maxRecDepth 100000 in
set_option maxHeartbeats 4000000 in
theorem playsN7_any (w : World) (who ses : Int) (k text : ByteArray) (big : Int) (hk : k.size ≤ 140737488355328) (hb : -9223372036854775808 ≤ big) :
    Calls Tryz.prog 6 #[.pointer none, .pointer none, .agg #[.int .i64 who, .int .i64 7, .int .i64 ses, .string k, .string text, .int .i64 big]] w fun e w' => e = .returned (.bool true) ∧ Fr (fun _ => False) w w' := by
  obtain ⟨w1, hw1⟩ : ∃ x, w.alloc (.cells #[.int .i64 who, .int .i64 7, .int .i64 ses, .string k, .string text, .int .i64 big] 28) = x := ⟨_, rfl⟩
  have hq1 : Fr (fun _ => False) w w1 := by rw [← hw1]; exact Fr.alloc _ _ _
  have hblk : w1.heap[w.heap.size]? = some (.cells #[.int .i64 who, .int .i64 7, .int .i64 ses, .string k, .string text, .int .i64 big] 28 (0, 0)) := by rw [← hw1]; exact alloc_at w _
  have HCL : Hid (∀ (i : Nat) (u : Value) (W : World), Fr (fun _ => False) w1 W → (#[.int .i64 who, .int .i64 7, .int .i64 ses, .string k, .string text, .int .i64 big] : Array Value)[i]? = some u → W.cell? ⟨w.heap.size, i, none⟩ = some u) := fun i u W hW hu => by
    rw [cell_of_blk (blk_later hblk hW (fun h => h)) i]; exact hu
  have d0 := HCL.out 0 _ _ (Fr.refl _ _) rfl
  have d1 := HCL.out 1 _ _ (Fr.refl _ _) rfl
  have d2 := HCL.out 2 _ _ (Fr.refl _ _) rfl
  have d3 := HCL.out 3 _ _ (Fr.refl _ _) rfl
  have d4 := HCL.out 4 _ _ (Fr.refl _ _) rfl
  have d5 := HCL.out 5 _ _ (Fr.refl _ _) rfl
  have HQ1 := Lib.hid hq1
  have HW1 := Lib.hid hw1
  clear hq1 hblk hw1
  go_enter Tryz.func6, Tryz.ntmps6
  go_upto_region 1 with (fail)
  rw [HW1.out]
  go_upto_region 39 with (fail)
  go_cut [215] from 207 to 215 (fun t215 wx => t215 = .bool false ∧ Hid (Fr (fun _ => False) w1 wx))
  case first =>
    go_region_law (first
      | (go_simp; go_at_call 8; ((with_reducible refine (name25_any _ who 7 ses k text big hk hb).mono ?_); rintro e wn ⟨rfl, hfn⟩; have hST : Fr (fun _ => False) w1 wn := Fr.wide (by first | assumption | exact Fr.refl _ _ | exact Fr.drew (fun _ => False) _ | exact (Fr.drew (fun _ => False) w1).mono (fun _ h _ => h) | exact Fr.wide (by assumption) (Fr.drew (fun _ => False) _) (fun _ h => h.elim)) hfn (fun _ h => h.elim); have s0 := HCL.out 0 _ _ hST rfl; have s1 := HCL.out 1 _ _ hST rfl; have s2 := HCL.out 2 _ _ hST rfl; have s3 := HCL.out 3 _ _ hST rfl; have s4 := HCL.out 4 _ _ hST rfl; have s5 := HCL.out 5 _ _ hST rfl; clear hfn; dsimp only))
      | (go_simp; go_at_call 21; ((with_reducible refine (nilCount_any _ (nameS k big)).mono ?_); rintro e wn ⟨rfl, rfl⟩; dsimp only))
      | (go_simp; go_at_call 22; ((with_reducible refine (nrCount_any _ (nameS k big)).mono ?_); rintro e wn ⟨rfl, rfl⟩; dsimp only)))
    all_goals
      go_wp2
      go_meet
      case rel => exact ⟨by first | rfl | simp, (by first | assumption | exact Fr.refl _ _ | exact Fr.drew (fun _ => False) _ | exact (Fr.drew (fun _ => False) w1).mono (fun _ h _ => h) | exact Fr.wide (by assumption) (Fr.drew (fun _ => False) _) (fun _ h => h.elim))⟩
  case rest =>
  obtain ⟨rfl, HA⟩ := hcut
  clear d0 d1 d2 d3 d4 d5
  have d0 := HCL.out 0 _ _ HA.out rfl
  have d1 := HCL.out 1 _ _ HA.out rfl
  have d2 := HCL.out 2 _ _ HA.out rfl
  have d3 := HCL.out 3 _ _ HA.out rfl
  have d4 := HCL.out 4 _ _ HA.out rfl
  have d5 := HCL.out 5 _ _ HA.out rfl
  have hST0 := HA.out
  go_wp2_with fail
  refine (nilChannels_any _ ses).mono ?_
  rintro e wn ⟨rfl, rfl⟩
  go_wp2_with fail
  refine (nilChannels_any _ ses).mono ?_
  rintro e wn ⟨rfl, rfl⟩
  go_wp2_with fail
  refine (nilPatterns_any _ ses).mono ?_
  rintro e wn ⟨rfl, rfl⟩
  go_wp2_with fail
  refine (nrChannels_any _ ses).mono ?_
  rintro e wn ⟨rfl, rfl⟩
  go_wp2_with fail
  refine (same_self _ (.slice none 0 0) (.slice none 0 0) [] (RdC.nil _ _) (RdC.nil _ _)).mono ?_
  rintro e wD ⟨rfl, hfD⟩
  have HD := Lib.hid (HA.out.wide hfD (fun _ h => h.elim))
  have g2 := HCL.out 2 _ _ HD.out rfl
  clear hfD
  go_wp2_with fail
  refine (nrPatterns_any _ ses).mono ?_
  rintro e wn ⟨rfl, rfl⟩
  go_wp2_with fail
  refine (same_self _ (.slice none 0 0) (.slice none 0 0) [] (RdC.nil _ _) (RdC.nil _ _)).mono ?_
  rintro e wE ⟨rfl, hfE⟩
  have HE := Lib.hid (HD.out.wide hfE (fun _ h => h.elim))
  clear hfE
  go_wp2_with fail
  go_loopw [246] (fun i wr => i = .int .i64 0 ∧ Hid (Fr (fun _ => False) w1 wr)) (fun _ _ => 0)
  case atStart => exact ⟨rfl, HE⟩
  case round =>
    obtain ⟨rfl, HF⟩ := hrel
    go_wp2_with fail
    go_loopw [255] (fun i wr => i = .int .i64 0 ∧ Hid (Fr (fun _ => False) w1 wr)) (fun _ _ => 0)
    case atStart => exact ⟨rfl, HF⟩
    case round =>
      obtain ⟨rfl, HF2⟩ := hrel
      obtain ⟨wy, rfl⟩ : ∃ x, x = wr := ⟨_, rfl⟩
      have hST0 := HF2.out
      have g5 := HCL.out 2 _ _ HF2.out rfl
      go_upto_region 56 with (fail)
      go_region_law (first
        | (go_simp; go_at_call 26; ((with_reducible refine (nrChannels_any _ ses).mono ?_); rintro e wn ⟨rfl, rfl⟩; dsimp only))
        | (go_simp; go_at_call 24; ((with_reducible refine (nilPatterns_any _ ses).mono ?_); rintro e wn ⟨rfl, rfl⟩; dsimp only))
        | (go_simp; go_at_call 27; ((with_reducible refine (nrPatterns_any _ ses).mono ?_); rintro e wn ⟨rfl, rfl⟩; dsimp only))
        | (go_simp; go_at_call 25; ((with_reducible refine (same_self _ (.slice none 0 0) (.slice none 0 0) [] (RdC.nil _ _) (RdC.nil _ _)).mono ?_); rintro e wn ⟨rfl, hfn⟩; have hST : Fr (fun _ => False) w1 wn := Fr.wide (by first | assumption | exact Fr.refl _ _ | exact Fr.drew (fun _ => False) _ | exact (Fr.drew (fun _ => False) wy).mono (fun _ h _ => h) | exact Fr.wide (by assumption) (Fr.drew (fun _ => False) _) (fun _ h => h.elim)) hfn (fun _ h => h.elim); have s0 := HCL.out 0 _ _ hST rfl; have s1 := HCL.out 1 _ _ hST rfl; have s2 := HCL.out 2 _ _ hST rfl; have s3 := HCL.out 3 _ _ hST rfl; have s4 := HCL.out 4 _ _ hST rfl; have s5 := HCL.out 5 _ _ hST rfl; clear hfn; dsimp only)))
      all_goals
        go_wp2
        go_ret
        exact ⟨by first | rfl | simp, Fr.wide (S := fun _ => False) (T := fun _ => False) HQ1.out (by first | assumption | exact Fr.refl _ _ | exact Fr.drew (fun _ => False) _ | exact (Fr.drew (fun _ => False) wy).mono (fun _ h _ => h) | exact Fr.wide (by assumption) (Fr.drew (fun _ => False) _) (fun _ h => h.elim)) (fun _ h => h.elim)⟩
set_option maxRecDepth 100000 in
set_option maxHeartbeats 4000000 in
theorem playsNElse_any (w : World) (who do_ ses : Int) (k text : ByteArray) (big : Int) (hk : k.size ≤ 140737488355328) (hb : -9223372036854775808 ≤ big) (n0 : ¬ do_ = 0) (n1 : ¬ do_ = 1) (n2 : ¬ do_ = 2) (n3 : ¬ do_ = 3) (n4 : ¬ do_ = 4) (n5 : ¬ do_ = 5) (n6 : ¬ do_ = 6) (n7 : ¬ do_ = 7) :
    Calls Tryz.prog 6 #[.pointer none, .pointer none, .agg #[.int .i64 who, .int .i64 do_, .int .i64 ses, .string k, .string text, .int .i64 big]] w fun e w' => e = .returned (.bool true) ∧ Fr (fun _ => False) w w' := by
  obtain ⟨w1, hw1⟩ : ∃ x, w.alloc (.cells #[.int .i64 who, .int .i64 do_, .int .i64 ses, .string k, .string text, .int .i64 big] 28) = x := ⟨_, rfl⟩
  have hq1 : Fr (fun _ => False) w w1 := by rw [← hw1]; exact Fr.alloc _ _ _
  have hblk : w1.heap[w.heap.size]? = some (.cells #[.int .i64 who, .int .i64 do_, .int .i64 ses, .string k, .string text, .int .i64 big] 28 (0, 0)) := by rw [← hw1]; exact alloc_at w _
  have HCL : Hid (∀ (i : Nat) (u : Value) (W : World), Fr (fun _ => False) w1 W → (#[.int .i64 who, .int .i64 do_, .int .i64 ses, .string k, .string text, .int .i64 big] : Array Value)[i]? = some u → W.cell? ⟨w.heap.size, i, none⟩ = some u) := fun i u W hW hu => by
    rw [cell_of_blk (blk_later hblk hW (fun h => h)) i]; exact hu
  have d0 := HCL.out 0 _ _ (Fr.refl _ _) rfl
  have d1 := HCL.out 1 _ _ (Fr.refl _ _) rfl
  have d2 := HCL.out 2 _ _ (Fr.refl _ _) rfl
  have d3 := HCL.out 3 _ _ (Fr.refl _ _) rfl
  have d4 := HCL.out 4 _ _ (Fr.refl _ _) rfl
  have d5 := HCL.out 5 _ _ (Fr.refl _ _) rfl
  have HQ1 := Lib.hid hq1
  have HW1 := Lib.hid hw1
  clear hq1 hblk hw1
  go_enter Tryz.func6, Tryz.ntmps6
  go_upto_region 1 with (fail)
  rw [HW1.out]
  go_wp2_with fail
  go_ret
  exact ⟨rfl, HQ1.out⟩
theorem playsN_any (w : World) (who do_ ses : Int) (k text : ByteArray) (big : Int) (hk : k.size ≤ 140737488355328) (hb : -9223372036854775808 ≤ big) :
    Calls Tryz.prog 6 #[.pointer none, .pointer none, .agg #[.int .i64 who, .int .i64 do_, .int .i64 ses, .string k, .string text, .int .i64 big]] w fun e w' => e = .returned (.bool true) ∧ Fr (fun _ => False) w w' := by
  by_cases n0 : do_ = 0
  · subst n0; exact playsN0_any w who ses k text big hk hb
  by_cases n1 : do_ = 1
  · subst n1; exact playsN1_any w who ses k text big hk hb
  by_cases n2 : do_ = 2
  · subst n2; exact playsN2_any w who ses k text big hk hb
  by_cases n3 : do_ = 3
  · subst n3; exact playsN3_any w who ses k text big hk hb
  by_cases n4 : do_ = 4
  · subst n4; exact playsN4_any w who ses k text big hk hb
  by_cases n5 : do_ = 5
  · subst n5; exact playsN5_any w who ses k text big hk hb
  by_cases n6 : do_ = 6
  · subst n6; exact playsN6_any w who ses k text big hk hb
  by_cases n7 : do_ = 7
  · subst n7; exact playsN7_any w who ses k text big hk hb
  exact playsNElse_any w who do_ ses k text big hk hb n0 n1 n2 n3 n4 n5 n6 n7
end Go.Proofs.YtleoeccjnchclaaGreatDoor

/- The walk of HubKnown: the chapter's examples. No condition. -/
import Derived.Test.YtleoeccjnchclaaDoorHubKn
import Derived.Test.YtleoeccjnchclaaDoorWakes25
namespace Go.Proofs.YtleoeccjnchclaaDoor
open Go.RowKit
theorem kIw {s : Int} (h : (Lit.int .i64 s).wf = true) : kI.ok s := h
set_option maxRecDepth 100000 in
set_option maxHeartbeats 8000000 in
theorem hubKnown_walk (w : World) : Calls Tryd.prog 5 #[] w fun e w' => e = .returned (.bool true) ∧ Below w.heap.size w w' := by
  have HW := fun w => Lib.hid (wakes25_any w)
  obtain ⟨cs1, hmk1, hcv1⟩ := zero_made 1025 (by decide)
  obtain ⟨cs2, hmk2, hcv2⟩ := zero_made 1024 (by decide)
  obtain ⟨cs3, hmk3, hcv3⟩ := zero_made 2000 (by decide)
  have hmk1 : ∀ w : World, (Instr.makeSlice 51 (.int .i64 1025) (.int .i64 1025)).run Tryd.prog w = .ok (.slice (some ⟨w.heap.size, 0, none⟩) 1025 1025) (w.alloc (.cells cs1 5)) := hmk1
  have hmk2 : ∀ w : World, (Instr.makeSlice 51 (.int .i64 1024) (.int .i64 1024)).run Tryd.prog w = .ok (.slice (some ⟨w.heap.size, 0, none⟩) 1024 1024) (w.alloc (.cells cs2 5)) := hmk2
  have hmk3 : ∀ w : World, (Instr.makeSlice 51 (.int .i64 2000) (.int .i64 2000)).run Tryd.prog w = .ok (.slice (some ⟨w.heap.size, 0, none⟩) 2000 2000) (w.alloc (.cells cs3 5)) := hmk3
  have hz1 : (zN 1025).size ≤ maxLen := by rw [zN_size]; decide
  have hz2 : (zN 1024).size ≤ maxLen := by rw [zN_size]; decide
  have HZ1 := Lib.hid hz1
  have HZ2 := Lib.hid hz2
  obtain ⟨z1, hz1e⟩ : ∃ z, zN 1025 = z := ⟨_, rfl⟩
  obtain ⟨z2, hz2e⟩ : ∃ z, zN 1024 = z := ⟨_, rfl⟩
  obtain ⟨z3, hz3e⟩ : ∃ z, zN 2000 = z := ⟨_, rfl⟩
  rw [hz1e] at hcv1
  rw [hz2e] at hcv2
  rw [hz3e] at hcv3
  have HE1 := Lib.hid hz1e
  have HE2 := Lib.hid hz2e
  clear hz1 hz2 hz1e hz2e hz3e
  have HX10 : Hid (lsRes (fun _ => []) (fun _ => []) 5 z1 = (0, 2, fun _ => [])) := by show _ = _; rw [← HE1.out]; exact k10
  have HX11 : Hid (lsRes (fun _ => []) (fun _ => []) 5 z2 = (1, 0, p2)) := by show _ = _; rw [← HE2.out]; exact k11
  go_enter Tryd.func5, Tryd.ntmps5
  go_wp2_with fail
  refine (hubNew_any w).mono ?_
  rintro e w1 ⟨h, X, rfl, H1, hb1⟩
  have K1 : Hid (Kn w w1 0 h (fun _ => []) (fun _ => [])) := ⟨_, hub_new H1 (Nat.le_refl _) (Fr.refl _ _), Fr.of_below hb1⟩
  clear H1 hb1
  go_wp2_with fail
  refine (HW _).out.mono ?_
  rintro e w2 ⟨rfl, hf2⟩
  have K2 := Lib.hid (K1.out.quiet hf2)
  clear hf2 K1
  go_wp2_with fail
  refine (kn_listen K2.out (by decide) 3 ⟨#[97]⟩ (kIw (by decide)) (by decide) k1).mono ?_
  rintro e w3 ⟨rfl, hk⟩
  have K3 := Lib.hid hk
  clear hk K2
  go_wp2_with fail
  refine (kn_listen K3.out (by decide) 1 ⟨#[97]⟩ (kIw (by decide)) (by decide) k2).mono ?_
  rintro e w4 ⟨rfl, hk⟩
  have K4 := Lib.hid hk
  clear hk K3
  go_wp2_with fail
  refine (kn_like K4.out (by decide) 3 ⟨#[97, 42]⟩ (kIw (by decide)) (by decide) k3).mono ?_
  rintro e w5 ⟨rfl, hk⟩
  have K5 := Lib.hid hk
  clear hk K4
  go_wp2_with fail
  refine (kn_listen K5.out (by decide) 3 ⟨#[97]⟩ (kIw (by decide)) (by decide) k4).mono ?_
  rintro e w6 ⟨rfl, hk⟩
  have K6 := Lib.hid hk
  clear hk K5
  go_wp2_with fail
  refine (kn_tell K6.out (by decide) sm1 ⟨#[97]⟩ ⟨#[120]⟩ (by decide) (by decide) nm1 o1).mono ?_
  rintro e w7 ⟨hk, oa, oc, rfl, ho, hfo, -⟩
  have K7 := Lib.hid hk
  have HO := Lib.hid ho
  obtain ⟨g, off, ua, uc, rfl, y0, y1, y2, y3, y4, hr0⟩ := out_at ho 0 (by decide)
  obtain ⟨g', off', ub, ud, ee, x0, x1, x2, x3, x4, hr1⟩ := out_at ho 1 (by decide)
  cases ee
  obtain ⟨g', off', ue, uf, ee, v0, v1, v2, v3, v4, hr2⟩ := out_at ho 2 (by decide)
  cases ee
  have HR1 := Lib.hid (RdC.of_owns hr1)
  have HR2 := Lib.hid (RdC.of_owns hr2)
  simp only [List.getElem_cons_zero, List.getElem_cons_succ, List.length_cons, List.length_nil, msgL, pmsgL, Nat.zero_add, Nat.one_mul, Nat.zero_mul, Nat.add_zero, Nat.reduceMul, Nat.reduceAdd, Nat.add_assoc] at y0 y1 y2 y3 y4 x0 x1 x2 x3 x4 v0 v1 v2 v3 v4 HR1 HR2
  clear hk ho hfo hr0 hr1 hr2 K6
  go_wp2_with fail
  have HA1 : Hid (Fr (fun _ => False) w7 (w7.alloc (.cells #[.string ⟨#[109, 101, 115, 115, 97, 103, 101]⟩, .string ⟨#[97]⟩, .string ⟨#[120]⟩] 9))) := Fr.alloc _ _ _
  refine (said25_any _ _ _ [⟨#[109, 101, 115, 115, 97, 103, 101]⟩, ⟨#[97]⟩, ⟨#[120]⟩] (HR1.out.fr HA1.out (fun _ _ h => h)) (RdC.of_owns (World.ownsRow_lit (base := 0) (e := 9) (size := 1) w7 #[.string ⟨#[109, 101, 115, 115, 97, 103, 101]⟩, .string ⟨#[97]⟩, .string ⟨#[120]⟩] 3 (Nat.zero_le _) (by decide) rfl)) (by simp)).mono ?_
  rintro e w8 ⟨rfl, hf8⟩
  have hf78 : Fr (fun _ => False) w7 w8 := HA1.out.trans hf8 (fun _ h _ => h)
  have k1 := hf78.cell v1 (fun h => h)
  have k2 := hf78.cell v2 (fun h => h)
  have k3 := hf78.cell v3 (fun h => h)
  have k4 := hf78.cell v4 (fun h => h)
  have K8 := Lib.hid (K7.out.quiet hf78)
  have HR28 := Lib.hid (HR2.out.fr hf78 (fun _ _ h => h))
  clear hf8 hf78 K7 HR1 HR2 y0 y1 y2 y3 y4 x0 x1 x2 x3 x4 v0 v1 v2 v3 v4 HO
  go_wp2_with fail
  have HA2 : Hid (Fr (fun _ => False) w8 (w8.alloc (.cells #[.string ⟨#[112, 109, 101, 115, 115, 97, 103, 101]⟩, .string ⟨#[97, 42]⟩, .string ⟨#[97]⟩, .string ⟨#[120]⟩] 9))) := Fr.alloc _ _ _
  refine (said25_any _ _ _ [⟨#[112, 109, 101, 115, 115, 97, 103, 101]⟩, ⟨#[97, 42]⟩, ⟨#[97]⟩, ⟨#[120]⟩] (HR28.out.fr HA2.out (fun _ _ h => h)) (RdC.of_owns (World.ownsRow_lit (base := 0) (e := 9) (size := 1) w8 #[.string ⟨#[112, 109, 101, 115, 115, 97, 103, 101]⟩, .string ⟨#[97, 42]⟩, .string ⟨#[97]⟩, .string ⟨#[120]⟩] 4 (Nat.zero_le _) (by decide) rfl)) (by simp)).mono ?_
  rintro e w9 ⟨rfl, hf9⟩
  have K9 := Lib.hid (K8.out.quiet (HA2.out.trans hf9 (fun _ h _ => h)))
  clear hf9 K8 HR28 k1 k2 k3 k4
  go_wp2_with fail
  refine (kn_count K9.out ⟨#[97]⟩ ⟨#[120]⟩ (by decide) (by decide) nm1 c1).mono ?_
  rintro e w10 ⟨rfl, rfl⟩
  go_wp2_with fail
  refine (kn_tell K9.out (by decide) sm1 ⟨#[97, 98]⟩ ⟨#[121]⟩ (by decide) (by decide) nm1 o2).mono ?_
  rintro e w11 ⟨hk, oa, oc, rfl, ho, hfo, -⟩
  have K11 := Lib.hid hk
  obtain ⟨g, off, ua, uc, rfl, y0, y1, y2, y3, y4, hr0⟩ := out_at ho 0 (by decide)
  have HR0 := Lib.hid (RdC.of_owns hr0)
  simp only [List.getElem_cons_zero, List.getElem_cons_succ, List.length_cons, List.length_nil, msgL, pmsgL, Nat.zero_add, Nat.one_mul, Nat.zero_mul, Nat.add_zero, Nat.reduceMul, Nat.reduceAdd, Nat.add_assoc] at y0 y1 y2 y3 y4 HR0
  clear hk ho hfo hr0 K9
  go_wp2_with fail
  have HA3 : Hid (Fr (fun _ => False) w11 (w11.alloc (.cells #[.string ⟨#[112, 109, 101, 115, 115, 97, 103, 101]⟩, .string ⟨#[97, 42]⟩, .string ⟨#[97, 98]⟩, .string ⟨#[121]⟩] 9))) := Fr.alloc _ _ _
  refine (said25_any _ _ _ [⟨#[112, 109, 101, 115, 115, 97, 103, 101]⟩, ⟨#[97, 42]⟩, ⟨#[97, 98]⟩, ⟨#[121]⟩] (HR0.out.fr HA3.out (fun _ _ h => h)) (RdC.of_owns (World.ownsRow_lit (base := 0) (e := 9) (size := 1) w11 #[.string ⟨#[112, 109, 101, 115, 115, 97, 103, 101]⟩, .string ⟨#[97, 42]⟩, .string ⟨#[97, 98]⟩, .string ⟨#[121]⟩] 4 (Nat.zero_le _) (by decide) rfl)) (by simp)).mono ?_
  rintro e w12 ⟨rfl, hf12⟩
  have K12 := Lib.hid (K11.out.quiet (HA3.out.trans hf12 (fun _ h _ => h)))
  clear hf12 K11 HR0 y0 y1 y2 y3 y4
  go_wp2_with fail
  refine (kn_leave K12.out 3 ⟨#[97]⟩ (kIw (by decide)) (by decide) (n := 1) k5 rfl).mono ?_
  rintro e w13 ⟨rfl, hk⟩
  have K13 := Lib.hid hk
  clear hk K12
  go_wp2_with fail
  refine (kn_leave K13.out 3 ⟨#[122]⟩ (kIw (by decide)) (by decide) (n := 1) k6 rfl).mono ?_
  rintro e w14 ⟨rfl, hk⟩
  have K14 := Lib.hid hk
  clear hk K13
  go_wp2_with fail
  refine (kn_leaveLike K14.out 3 ⟨#[97, 42]⟩ (kIw (by decide)) (by decide) (n := 0) k7 rfl).mono ?_
  rintro e w15 ⟨rfl, hk⟩
  have K15 := Lib.hid hk
  clear hk K14
  go_wp2_with fail
  refine (kn_drop K15.out 1 (kIw (by decide)) (fun x hx => by have hx : x ∈ [(⟨#[97]⟩ : ByteArray)] := hx; rw [List.mem_singleton.1 hx]; decide) k8 k9).mono ?_
  rintro e w16 ⟨⟨u, rfl⟩, hk⟩
  have K16 := Lib.hid hk
  clear hk K15
  go_wp2_with fail
  refine (kn_listen (K16.out.quiet (Fr.alloc _ _ _)) (by decide) 5 z1 (kIw (by decide)) (HE1.out ▸ HZ1.out) HX10.out).mono ?_
  rintro e w17 ⟨rfl, hk⟩
  have K17 := Lib.hid hk
  clear hk K16
  go_wp2_with fail
  refine (kn_like (K17.out.quiet (Fr.alloc _ _ _)) (by decide) 5 z2 (kIw (by decide)) (HE2.out ▸ HZ2.out) HX11.out).mono ?_
  rintro e w18 ⟨rfl, hk⟩
  have K18 := Lib.hid hk
  clear hk K17
  go_wp2_with fail
  refine (kn_tell K18.out (by decide) sm2 ⟨#[97]⟩ ⟨#[120]⟩ (by decide) (by decide) nm2 o3).mono ?_
  rintro e w19 ⟨hk, oa, oc, rfl, ho, hfo, -⟩
  have K19 : Hid (Kn w w19 6 h (fi 0) p2) := by rw [fi_zero]; exact hk
  clear hk ho hfo K18
  go_wp2_with fail
  go_loopw [176] (fun i wr => ∃ k : Nat, i = .int .i64 k ∧ k ≤ 1023 ∧ Hid (Kn w wr (6 + k) h (fi k) p2)) (fun i _ => 1023 - (intOf i).toNat)
  case atStart => exact ⟨0, rfl, by omega, K19⟩
  case round =>
    obtain ⟨k, rfl, hk, HK⟩ := hrel
    obtain ⟨wo, rfl⟩ : ∃ x, x = wr := ⟨_, rfl⟩
    by_cases hlt : k < 1023
    · obtain ⟨x, hx⟩ : ∃ x, nm k = x := ⟨_, rfl⟩
      have hcv : ∀ w : World, (convert 51 9 (.slice (some ⟨w.heap.size, 0, none⟩) 2 2)).run Tryd.prog (w.alloc (.cells #[.int .u8 ((k : Int) % 256), .int .u8 ((k : Int) / 256)] 5)) = .ok (.string x) (w.alloc (.cells #[.int .u8 ((k : Int) % 256), .int .u8 ((k : Int) / 256)] 5)) := fun w => by
        have h9 := two_made (UInt8.ofNat k) (UInt8.ofNat (k / 256)) w
        have e1 : (((UInt8.ofNat k).toNat : Nat) : Int) = (k : Int) % 256 := by rw [UInt8.toNat_ofNat']; omega
        have e2 : (((UInt8.ofNat (k / 256)).toNat : Nat) : Int) = (k : Int) / 256 := by rw [UInt8.toNat_ofNat']; omega
        rw [e1, e2] at h9
        rw [← hx]
        exact h9
      have HX : Hid (lsRes (fi k) p2 5 x = (k + 2, 0, fi (k + 1))) := by show _ = _; rw [← hx]; exact k12 k hlt
      have HXS : Hid (x.size ≤ maxLen) := by show _ ≤ _; rw [← hx, nm_size]; decide
      have b0 : (k : Int) < 1023 := by omega
      clear hx
      go_wp2_with fail
      refine (kn_listen (HK.out.quiet (Fr.alloc _ _ _)) (by omega) 5 x (kIw (by decide)) HXS.out HX.out).mono ?_
      rintro e wq ⟨rfl, hkq⟩
      have HKQ := Lib.hid hkq
      clear hkq
      go_wp2_with fail
      go_roundw
      case rel => exact ⟨k + 1, by go_num, by omega, HKQ⟩
      case measure => simp [intOf]; omega
    · obtain rfl : k = 1023 := by omega
      have hcv : ∀ w : World, (convert 51 9 (.slice (some ⟨w.heap.size, 0, none⟩) 2 2)).run Tryd.prog (w.alloc (.cells #[.int .u8 7, .int .u8 0] 5)) = .ok (.string (nm 7)) (w.alloc (.cells #[.int .u8 7, .int .u8 0] 5)) := fun w => two_made 7 0 w
      obtain ⟨x, hx⟩ : ∃ x, nm 7 = x := ⟨_, rfl⟩
      rw [hx] at hcv
      have HX : Hid (lsRes (fi 1023) p2 5 x = (1024, 0, fi 1023)) := by show _ = _; rw [← hx]; exact k14
      have HXS : Hid (x.size ≤ maxLen) := by show _ ≤ _; rw [← hx, nm_size]; decide
      clear hx
      go_wp2_with fail
      refine (kn_like HK.out (by decide) 5 ⟨#[111, 110, 101, 32, 109, 111, 114, 101]⟩ (kIw (by decide)) (by decide) (k13 (by decide))).mono ?_
      rintro e wq ⟨rfl, hkq⟩
      have K20 := Lib.hid hkq
      clear hkq
      go_wp2_with fail
      refine (kn_listen (K20.out.quiet (Fr.alloc _ _ _)) (by decide) 5 x (kIw (by decide)) HXS.out HX.out).mono ?_
      rintro e wr2 ⟨rfl, hkq⟩
      have K21 := Lib.hid hkq
      clear hkq K20
      go_wp2_with fail
      refine (kn_listen K21.out (by decide) 6 ⟨#[111, 110, 101, 32, 109, 111, 114, 101]⟩ (kIw (by decide)) (by decide) (k15 _ (by decide))).mono ?_
      rintro e ws ⟨rfl, hkq⟩
      have K22 := Lib.hid hkq
      clear hkq K21
      go_wp2_with fail
      refine (nilDrop_any _ 1).mono ?_
      rintro e ws2 ⟨⟨u2, rfl⟩, rfl⟩
      go_wp2_with fail
      refine (nilListen_any _ 1 z3).mono ?_
      rintro e ws3 ⟨rfl, rfl⟩
      have K23 := Lib.hid (K22.out.quiet (Fr.alloc (fun _ => False) ws (.cells cs3 5)))
      go_wp2_with fail
      refine (nilLeave_any _ 1 ⟨#[97]⟩).mono ?_
      rintro e ws4 ⟨rfl, rfl⟩
      go_wp2_with fail
      refine (nilTell_any _ ⟨#[97]⟩ ⟨#[98]⟩).mono ?_
      rintro e ws5 ⟨rfl, rfl⟩
      go_wp2_with fail
      refine (nilCount_any _ ⟨#[97]⟩).mono ?_
      rintro e ws6 ⟨rfl, rfl⟩
      go_wp2_with fail
      refine (nilChannels_any _ 1).mono ?_
      rintro e ws7 ⟨rfl, rfl⟩
      go_wp2_with fail
      go_ret
      exact ⟨rfl, K23.out.below⟩
end Go.Proofs.YtleoeccjnchclaaDoor

/- pantrylaw25's wakes: somebody is told. No condition. -/
import Derived.Test.YtleoeccjnchclaaDoorHubP
import Derived.Test.YtleoeccjnchclaaDoorSaid25
namespace Go.Proofs.YtleoeccjnchclaaDoor
open Go.RowKit
theorem gm1 : gm ⟨#[97, 42]⟩ ⟨#[97, 98]⟩ = true := by decide +kernel
theorem gm2 : gm ⟨#[97, 42]⟩ ⟨#[98]⟩ = false := by decide +kernel
def abS : ByteArray := ⟨#[97, 98]⟩
def asS : ByteArray := ⟨#[97, 42]⟩
theorem ls1 : lsRes (fun _ => []) (fun _ => []) 4 ⟨#[97, 98]⟩ = (1, 0, addF (fun _ => []) 4 ⟨#[97, 98]⟩) := by
  unfold lsRes
  rw [if_neg (by decide), if_neg (by simp), if_neg (by decide)]
  rfl
theorem ls2 : lsRes (fun _ => []) (addF (fun _ => []) 4 ⟨#[97, 98]⟩) 4 ⟨#[97, 42]⟩ = (2, 0, addF (fun _ => []) 4 ⟨#[97, 42]⟩) := by
  unfold lsRes
  rw [if_neg (by decide), if_neg (by simp), addF_same, if_neg (by decide)]
  rfl
theorem sort_one (s : Int) {l : List Int} (hn : l.Nodup) (h : ∀ x, x ∈ l ↔ x = s) : sortI l = [s] :=
  ltI_one ((sortI_perm l).trans ((List.perm_ext_iff_of_nodup hn (by simp)).2 fun x => by rw [h, List.mem_singleton])) (sortI_rises hn) (by simp)
theorem sortS_one (x : ByteArray) : sortS [x] = [x] := by
  have h := (sortS_perm [x])
  exact List.perm_singleton.1 h
theorem tell1 {fb : ByteArray → List Int} {ks : List Int} (hn : ks.Nodup) (hf : (fb ⟨#[97, 98]⟩).Nodup) (ht : Tie fb (addF (fun _ => []) 4 ⟨#[97, 98]⟩)) (h1 : ∀ s, addF (fun _ => []) (4 : Int) (⟨#[97, 42]⟩ : ByteArray) s ≠ [] → s ∈ ks) :
    tellL fb ks (addF (fun _ => []) 4 ⟨#[97, 42]⟩) ⟨#[97, 98]⟩ ⟨#[120]⟩ = [msgL 4 ⟨#[97, 98]⟩ ⟨#[120]⟩, pmsgL 4 ⟨#[97, 42]⟩ ⟨#[97, 98]⟩ ⟨#[120]⟩] := by
  rw [tell_by (Z := [4]) hn (by simp) h1 (fun s hs => by
    unfold addF at hs
    by_cases e : s = 4
    · simp [e]
    · rw [if_neg e] at hs; exact absurd rfl hs)]
  rw [sort_one 4 hf (fun x => by
    rw [ht]
    unfold addF
    by_cases e : x = 4
    · simp [e]
    · simp [e])]
  rw [List.flatMap_singleton]
  unfold patL
  rw [addF_same, List.nil_append, sortS_one, List.filter_cons, if_pos gm1]
  rfl
set_option maxRecDepth 100000 in
set_option maxHeartbeats 4000000 in
theorem wakes25_any (w : World) : Calls Tryd.prog 6 #[] w fun e w' => e = .returned (.bool true) ∧ Fr (fun _ => False) w w' := by
  have HN := Lib.hid (hubNew_any w)
  have HM1 := fun w => Lib.hid (match_any ⟨#[97, 42]⟩ ⟨#[97, 98]⟩ w (by decide) (by decide))
  have HM2 := fun w => Lib.hid (match_any ⟨#[97, 42]⟩ ⟨#[98]⟩ w (by decide) (by decide))
  rw [gm1] at HM1
  rw [gm2] at HM2
  go_enter Tryd.func6, Tryd.ntmps6
  go_wp2_with fail
  refine HN.out.mono ?_
  rintro e w1 ⟨h, X, rfl, H1, hb1⟩
  have HT1 : Hid (HubT w1 w.heap.size (fun k => w.heap.size ≤ k ∧ k < w1.heap.size) 0 h (fun _ => []) (fun _ => [])) := ⟨X, _, H1, fun k s => by simp⟩
  have HB1 := Lib.hid hb1
  clear H1 hb1
  go_wp2_with fail
  refine (HM1 _).out.mono ?_
  rintro e w2 ⟨rfl, m2, hm2⟩
  have HQ2 : Hid (Fr (fun _ => False) w1 w2) := (by rw [hm2]; exact Fr.drewN (fun _ => False) w1 m2)
  clear hm2
  go_wp2_with fail
  refine (HM2 _).out.mono ?_
  rintro e w3 ⟨rfl, m3, hm3⟩
  have hq3 : Fr (fun _ => False) w1 w3 := HQ2.out.trans (S := fun _ => False) (T := fun _ => False) (by rw [hm3]; exact Fr.drewN (fun _ => False) w2 m3) (fun _ h _ => h)
  have HL := Lib.hid (hubListen_any (HT1.out.quiet hq3) (Nat.le_trans HB1.out.size hq3.size) (by decide) 4 ⟨#[97, 98]⟩ (by show (Lit.int .i64 4).wf = true; decide) (by decide))
  rw [ls1] at HL
  have HQ3 := Lib.hid hq3
  clear hm3 hq3
  go_wp2_with fail
  refine HL.out.mono ?_
  rintro e w4 ⟨rfl, hf4, hT4⟩
  have HK := Lib.hid (hubLike_any hT4 (Nat.le_trans (Nat.le_trans HB1.out.size HQ3.out.size) hf4.size) (by decide) 4 ⟨#[97, 42]⟩ (by show (Lit.int .i64 4).wf = true; decide) (by decide))
  rw [ls2] at HK
  have HF4 := Lib.hid hf4
  clear hf4 hT4
  go_wp2_with fail
  refine HK.out.mono ?_
  rintro e w5 ⟨rfl, hf5, X5, fb5, H5, ht5⟩
  have HTE := Lib.hid (tell_any H5 ht5 (by decide) ⟨#[97, 98]⟩ ⟨#[120]⟩ (by decide) (fun s p hp => by
    unfold addF at hp
    by_cases e : s = 4
    · rw [if_pos e] at hp
      simp at hp
      rw [hp]
      decide
    · rw [if_neg e] at hp; cases hp))
  have hks : (X5.pt.map (·.1)).Nodup := H5.p.top.nodup
  rw [tell1 hks (H5.b.nodup _) ht5 (fun s hs => by
    cases hk : lkp s X5.pt with
    | none => exact absurd (H5.p.no s hk) hs
    | some b => exact List.mem_map.2 ⟨_, look_mem hk, rfl⟩)] at HTE
  have HFF : Hid (Fr (fun _ => False) w w5) := by
    have z1 : Fr (fun _ => False) w w1 := (Fr.of_below HB1.out).mono fun _ hi hk => absurd hk (by omega)
    have z3 : Fr (fun _ => False) w w3 := z1.wide HQ3.out (fun _ h => h.elim)
    have z4 : Fr (fun _ => False) w w4 := z3.wide HF4.out (fun k hk => .inr hk.1)
    exact z4.wide hf5 (fun k hk => .inr (hk.elim (fun q => q.1) (fun q => Nat.le_trans z3.size q.1)))
  clear hf5 H5 ht5 hks
  go_wp2_with fail
  refine HTE.out.mono ?_
  rintro e w6 ⟨v6, rfl, ⟨vals, hv1, hv2, hv3⟩, hf6⟩
  have HF6 := Lib.hid (HFF.out.wide hf6 (fun _ h => h.elim))
  match vals, hv1 with
  | [u0, u1], _ =>
    have r0 := hv3 0 _ u0 rfl rfl
    have r1 := hv3 1 _ u1 rfl rfl
    obtain ⟨ua, uc, rfl⟩ := ow_sliceN r0
    obtain ⟨ub, ud, rfl⟩ := ow_sliceN r1
    obtain ⟨va, vc, rfl⟩ := ow_sliceN hv2
    obtain ⟨g, off, rfl, hc⟩ := (RdC.of_owns hv2).at (by show 0 < 10; decide)
    have x0 : w6.cell? ⟨g, off, none⟩ = some (.int .i64 4) := hc 0 _ rfl
    have x1 := hc 1 (.int .i64 6) rfl
    have x2 := hc 2 (.string ⟨#[]⟩) rfl
    have x3 := hc 3 (.int .i64 0) rfl
    have x4 := hc 4 _ rfl
    have y1 := hc 6 (.int .i64 6) rfl
    have y2 := hc 7 (.string ⟨#[]⟩) rfl
    have y3 := hc 8 (.int .i64 0) rfl
    have y4 := hc 9 _ rfl
    have HR0 := Lib.hid (RdC.of_owns r0)
    have HR1 := Lib.hid (RdC.of_owns r1)
    clear hv2 hv3 hc r0 r1 hf6
    go_wp2_with fail
    have HA : Hid (Fr (fun _ => False) w6 (w6.alloc (.cells #[.string ⟨#[109, 101, 115, 115, 97, 103, 101]⟩, .string ⟨#[97, 98]⟩, .string ⟨#[120]⟩] 9))) := Fr.alloc _ _ _
    refine (said25_any _ _ _ [⟨#[109, 101, 115, 115, 97, 103, 101]⟩, ⟨#[97, 98]⟩, ⟨#[120]⟩] (HR0.out.fr HA.out (fun _ _ h => h)) (RdC.of_owns (World.ownsRow_lit (base := 0) (e := 9) (size := 1) w6 #[.string ⟨#[109, 101, 115, 115, 97, 103, 101]⟩, .string ⟨#[97, 98]⟩, .string ⟨#[120]⟩] 3 (Nat.zero_le _) (by decide) rfl)) (by simp)).mono ?_
    rintro e w7 ⟨rfl, hf7⟩
    have hf67 : Fr (fun _ => False) w6 w7 := HA.out.trans hf7 (fun _ h _ => h)
    have k1 := hf67.cell y1 (fun h => h)
    have k2 := hf67.cell y2 (fun h => h)
    have k3 := hf67.cell y3 (fun h => h)
    have k4 := hf67.cell y4 (fun h => h)
    have HF7 := Lib.hid (HF6.out.wide hf67 (fun _ h => h.elim))
    have HR17 := Lib.hid (HR1.out.fr hf67 (fun _ _ h => h))
    clear hf7 hf67
    go_wp2_with fail
    have HA2 : Hid (Fr (fun _ => False) w7 (w7.alloc (.cells #[.string ⟨#[112, 109, 101, 115, 115, 97, 103, 101]⟩, .string ⟨#[97, 42]⟩, .string ⟨#[97, 98]⟩, .string ⟨#[120]⟩] 9))) := Fr.alloc _ _ _
    refine (said25_any _ _ _ [⟨#[112, 109, 101, 115, 115, 97, 103, 101]⟩, ⟨#[97, 42]⟩, ⟨#[97, 98]⟩, ⟨#[120]⟩] (HR17.out.fr HA2.out (fun _ _ h => h)) (RdC.of_owns (World.ownsRow_lit (base := 0) (e := 9) (size := 1) w7 #[.string ⟨#[112, 109, 101, 115, 115, 97, 103, 101]⟩, .string ⟨#[97, 42]⟩, .string ⟨#[97, 98]⟩, .string ⟨#[120]⟩] 4 (Nat.zero_le _) (by decide) rfl)) (by simp)).mono ?_
    rintro e w8 ⟨rfl, hf8⟩
    have HF8 := Lib.hid ((HF7.out.wide HA2.out (fun _ h => h.elim)).wide hf8 (fun _ h => h.elim))
    clear hf8
    go_wp2_with fail
    go_ret
    exact ⟨rfl, HF8.out⟩
end Go.Proofs.YtleoeccjnchclaaDoor

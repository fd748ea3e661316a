/- The walk of pantrylaw03's means. No condition. -/
import Derived.Test.YthiamkfghnopgaaDoorGlobO
namespace Go.Proofs.YthiamkfghnopgaaDoor
open Go.RowKit
theorem any_snoc (o : Bytes) (x : UInt8) (k : Nat) (h : k < o.length) : (o.take (k + 1)).any (· == x) = ((o.take k).any (· == x) || (o[k] == x)) := by
  rw [List.take_succ_eq_append_getElem h, List.any_append]; simp
theorem map_at (o : Bytes) (k : Nat) (h : k < o.length) : (o.map u8)[k]? = some (.int .u8 (o[k].toNat : Int)) := by
  rw [List.getElem?_map, List.getElem?_eq_getElem h]; rfl
set_option maxRecDepth 100000 in
set_option maxHeartbeats 4000000 in
theorem means_any (k : Int) (a b : UInt8) (v3 : Value) (o : Bytes) (x : UInt8) (w : World) (hr : RdC w 1 v3 o.length (o.map u8)) :
    Calls Tryd.prog 14 #[.agg #[.int .i64 k, .int .u8 a.toNat, .int .u8 b.toNat, v3], .int .u8 x.toNat] w fun e w' => e = .returned (.bool (sgn k a b o x)) ∧ Below w.heap.size w w' := by
  have hlen := hr.len
  have hbox := BoxS.new w k a b v3 30
  have hB0 : Below w.heap.size w (w.alloc (.cells #[.int .i64 k, .int .u8 a.toNat, .int .u8 b.toNat, v3] 30)) := (Below.refl _ _).alloc (Nat.le_refl _) _
  have hr' := hr.below hB0
  obtain ⟨ad, cap, hv⟩ : ∃ ad cap, v3 = .slice ad o.length cap := by
    obtain ⟨_, ad, cap, h, _⟩ := hr
    exact ⟨ad, cap, h⟩
  subst hv
  have HR := Lib.hid hr'
  have HBL := Lib.hid hB0
  have hlen2 : o.length ≤ 9223372036854775807 := hlen
  clear hr hr' hB0 hlen
  obtain ⟨c0, c1, c2, c3⟩ := hbox
  go_enter Tryd.func14, Tryd.ntmps14
  go_wp2
  go_loop [5, 6] (fun bb i => ∃ n : Nat, n ≤ o.length ∧ bb = .bool ((o.take n).any (· == x)) ∧ i = .int .i64 n) (fun bb i => o.length - (intOf i).toNat)
  case atStart => exact ⟨0, by omega, rfl, rfl⟩
  case round =>
    obtain ⟨n, hn, rfl, rfl⟩ := hrel
    by_cases hlt : n < o.length
    · obtain ⟨g, off, rfl, hc⟩ := HR.out.at (by rw [List.length_map]; omega)
      have ck := hc n _ (map_at o n hlt)
      have hs := any_snoc o x n hlt
      obtain ⟨B, hB⟩ : ∃ B, (o.take n).any (· == x) = B := ⟨_, rfl⟩
      rw [hB] at hs ⊢
      have HS := Lib.hid hs
      clear hs hc hB
      cases B with
      | true =>
        go_wp2
        go_round
        case rel => exact ⟨n + 1, by omega, by rw [HS.out]; rfl, by go_num⟩
        case measure => simp [intOf]; omega
      | false =>
        go_wp2
        go_round
        case rel => exact ⟨n + 1, by omega, by rw [HS.out, Bool.false_or, ← byte_beq], by go_num⟩
        case measure => simp [intOf]; omega
    · have hall : (o.take n).any (· == x) = o.any (· == x) := by rw [List.take_of_length_le (by omega)]
      rw [hall]
      obtain ⟨B, hB⟩ : ∃ B, o.any (· == x) = B := ⟨_, rfl⟩
      rw [hB]
      have HB := Lib.hid hB
      have g1 : decide (n < o.length) = false := by simpa using hlt
      clear hall hB
      go_upto_region 6 with (fail)
      go_cut [7] from 25 to 46 (fun t wc => wc = w.alloc (.cells #[.int .i64 k, .int .u8 a.toNat, .int .u8 b.toNat, .slice ad o.length cap] 30) ∧ t = .bool (btw a b x))
      case first =>
        have hw : btw a b x = (decide ((a.toNat : Int) ≤ x.toNat) && decide ((x.toNat : Int) ≤ b.toNat) || decide ((b.toNat : Int) ≤ x.toNat) && decide ((x.toNat : Int) ≤ a.toNat)) := by
          unfold btw
          rw [Bool.eq_iff_iff]
          simp only [Bool.and_eq_true, Bool.or_eq_true, decide_eq_true_eq, UInt8.le_iff_toNat_le]
          omega
        have HW := Lib.hid hw
        clear hw
        go_wp2
        all_goals
          go_meet
          case rel =>
            refine ⟨rfl, congrArg Value.bool ?_⟩
            rw [HW.out, Bool.eq_iff_iff]
            simp only [Bool.and_eq_true, Bool.or_eq_true, decide_eq_true_eq, Bool.false_eq_true, false_iff, true_iff]
            omega
      case rest =>
      obtain ⟨rfl, rfl⟩ := hcut
      by_cases h1 : k = 1
      · subst h1
        go_wp2_with fail
        go_ret
        exact ⟨rfl, HBL.out⟩
      have g1 : (k == 1) = false := by simpa using h1
      by_cases h3 : k = 3
      · subst h3
        go_wp2_with fail
        go_ret
        exact ⟨by show _ = Ending.returned (Value.bool (o.any (· == x))); rw [HB.out]; rfl, HBL.out⟩
      have g3 : (k == 3) = false := by simpa using h3
      by_cases h4 : k = 4
      · subst h4
        go_wp2_with fail
        go_ret
        exact ⟨by show _ = Ending.returned (Value.bool (!(o.any (· == x)))); rw [HB.out]; rfl, HBL.out⟩
      have g4 : (k == 4) = false := by simpa using h4
      by_cases h5 : k = 5
      · subst h5
        go_wp2_with fail
        go_ret
        exact ⟨rfl, HBL.out⟩
      have g5 : (k == 5) = false := by simpa using h5
      by_cases h6 : k = 6
      · subst h6
        go_wp2_with fail
        go_ret
        exact ⟨rfl, HBL.out⟩
      have g6 : (k == 6) = false := by simpa using h6
      have HX := Lib.hid (byte_beq a x)
      go_wp2_with fail
      go_ret
      exact ⟨by unfold sgn; rw [if_neg h1, if_neg h3, if_neg h4, if_neg h5, if_neg h6, ← HX.out]; rfl, HBL.out⟩
end Go.Proofs.YthiamkfghnopgaaDoor

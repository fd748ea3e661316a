/- The walk of pantryref03's set. No condition but sizes. -/
import Derived.Test.YtleoeccjnchclaaGreatDoorZar
import Derived.Great.BuildSlice
namespace Go.Proofs.YtleoeccjnchclaaGreatDoor
open Go.RowKit
set_option maxRecDepth 100000 in
set_option maxHeartbeats 2000000 in
theorem refSet_any (s : ByteArray) (k : Nat) (w : World) (hs : s.size < 4611686018427387904) (hk : k ≤ s.size) :
    Calls Tryz.prog 50 #[.string s, .int .i64 k] w fun e w' => e = .returned (.tuple #[.agg (signC false (setAt ((bl s).drop k)).1 0 false).toArray, .int .i64 ((k + (setAt ((bl s).drop k)).2 : Nat) : Int)]) ∧ Below w.heap.size w w' := by
  have HZ := run_zeroSign
  go_enter Tryz.func50, Tryz.ntmps50
  go_upto_region 2 with (fail)
  obtain ⟨Z, hZ⟩ : ∃ Z, (signC false (fun _ => false) 0 false).toArray = Z := ⟨_, rfl⟩
  have hnew : SignAt ((w.alloc (.cells Z 83)).alloc (.cells Z 83)) (w.heap.size + 1) false (fun _ => false) 0 false := by
    rw [← hZ]
    have h := SignAt.new (w.alloc (.cells (signC false (fun _ => false) 0 false).toArray 83))
    have e : (w.alloc (.cells (signC false (fun _ => false) 0 false).toArray 83)).heap.size = w.heap.size + 1 := by simp
    rw [e] at h
    exact h
  have hbel : Below w.heap.size w ((w.alloc (.cells Z 83)).alloc (.cells Z 83)) := ((Below.refl _ _).alloc (Nat.le_refl _) _).alloc (by simp) _
  rw [hZ]
  have hold : SignAt ((w.alloc (.cells Z 83)).alloc (.cells Z 83)) w.heap.size false (fun _ => false) 0 false := by
    unfold SignAt
    rw [hZ]
    exact heap_alloc2_old w _ _
  obtain ⟨wb, hwb⟩ : ∃ wb, (w.alloc (.cells Z 83)).alloc (.cells Z 83) = wb := ⟨_, rfl⟩
  rw [hwb] at hnew hbel hold ⊢
  have HO := Lib.hid hold
  have HN := Lib.hid hnew
  have HB := Lib.hid hbel
  clear hwb hZ hnew hbel HZ hold
  go_cut [7] from 17 to 26 (fun t wc => wc = wb ∧ t = .bool (neg ((bl s).drop k)))
  case first =>
    by_cases hlt : k < s.size
    · have hd := bl_drop s k hlt
      have hn : neg ((bl s).drop k) = (s[k] == 94) := by rw [hd]; exact neg_cons _ _
      have HNE := Lib.hid hn
      have g : decide (k < s.size) = true := by simpa using hlt
      have hbq := byte_beq s[k] 94
      have HQ := Lib.hid hbq
      clear hd hn hbq
      go_wp2
      go_meet
      case rel => exact ⟨rfl, congrArg Value.bool (HQ.out.trans HNE.out.symm)⟩
    · have hn : neg ((bl s).drop k) = false := by rw [bl_end s k (by omega)]; rfl
      have HNE := Lib.hid hn
      have g : decide (k < s.size) = false := by simpa using hlt
      clear hn
      go_wp2
      go_meet
      case rel => exact ⟨rfl, congrArg Value.bool HNE.out.symm⟩
  case rest =>
  obtain ⟨rfl, rfl⟩ := hcut
  obtain ⟨N, hN⟩ : ∃ N, neg ((bl s).drop k) = N := ⟨_, rfl⟩
  have hnn : negN ((bl s).drop k) = if N then 1 else 0 := by unfold negN; rw [hN]
  have HNN := Lib.hid hnn
  have HNG := Lib.hid hN
  rw [hN]
  clear hnn hN
  go_upto_if 27 with (fail)
  go_cut [1] from 28 to 29 (fun t wc' => wc' = wc ∧ t = .int .i64 ((k + negN ((bl s).drop k) : Nat) : Int))
  case first =>
    cases N with
    | true =>
      go_wp2
      go_meet
      case rel => exact ⟨rfl, by rw [HNN.out]; rfl⟩
    | false =>
      go_wp2
      go_meet
      case rel => exact ⟨rfl, by rw [HNN.out]; rfl⟩
  case rest =>
  obtain ⟨rfl, rfl⟩ := hcut
  have hkn1 : negN ((bl s).drop k) ≤ 1 := by unfold negN; split <;> omega
  have hkk : k + negN ((bl s).drop k) ≤ s.size := by
    by_cases hlt : k < s.size
    · omega
    · have : negN ((bl s).drop k) = 0 := by rw [bl_end s k (by omega)]; rfl
      omega
  obtain ⟨kn, hkn⟩ : ∃ n, negN ((bl s).drop k) = n := ⟨_, rfl⟩
  have hset := setAt_eq ((bl s).drop k)
  rw [HNG.out, hkn, List.drop_drop, List.length_drop, bl_len] at hset
  rw [hkn] at hkn1 hkk ⊢
  obtain ⟨F, hF⟩ : ∃ F : UInt8 → Bool, (fun x => (its ((bl s).drop (k + kn))).1.any (within x)) = F := ⟨_, rfl⟩
  obtain ⟨M, hM⟩ : ∃ M, k + kn + (its ((bl s).drop (k + kn))).2 = M := ⟨_, rfl⟩
  have hMs : M ≤ s.size := by
    have := its_le ((bl s).drop (k + kn))
    rw [List.length_drop, bl_len] at this
    omega
  have hF' : ∀ x, (its ((bl s).drop (k + kn))).1.any (within x) = F x := fun x => congrFun hF x
  have hfin : Hid ((setAt ((bl s).drop k)).1 = (fun x => F x != N) ∧ k + (setAt ((bl s).drop k)).2 = min (M + 1) s.size) := by
    show _ ∧ _
    rw [hset]
    refine ⟨funext fun x => ?_, ?_⟩
    · simp only; rw [hF' x]
    · simp only; omega
  have hst0 : Hid (∀ x, Rest s x (F x) M (k + kn) false) := fun x => ⟨by rw [hF' x]; rfl, hM⟩
  have hzt : Hid ((fun _ => false) = upd (fun _ => false) (fun _ => false) 0) := (upd_zero _ _).symm
  clear hset hF hM hF' hkn HNN
  obtain ⟨w1, rfl⟩ : ∃ w1, w1 = wc := ⟨_, rfl⟩
  go_upto_block 0 with (fail)
  go_cut [1] from 8 to 90 (fun a wc => a = .int .i64 (M : Int) ∧ Hid (SignAt wc (w.heap.size + 1) false F 0 false) ∧ Hid (Fr (fun i => i = w.heap.size + 1) w1 wc))
  case first =>
    go_wp2
    go_loopg [1] (s.size - (k + kn)) (fun gh a wr => ∃ (a0 : Nat) (T : UInt8 → Bool), Hid (a0 + gh = s.size) ∧ a = .int .i64 a0 ∧ Hid (∀ x, Rest s x (F x) M a0 (T x)) ∧ Hid (SignAt wr (w.heap.size + 1) false T 0 false) ∧ Hid (Fr (fun i => i = w.heap.size + 1) w1 wr))
    case atStart => exact ⟨k + kn, fun _ => false, by show _ = _; omega, rfl, hst0, HN, Fr.refl _ _⟩
    case round =>
      obtain ⟨a, T, HG, rfl, HR, HS, HF⟩ := hrel
      have hale : a ≤ s.size := by have := HG.out; omega
      by_cases ha : a < s.size
      case neg =>
        have e1 : (bl s).drop a = [] := bl_end s a (by omega)
        have hTF : T = F := funext fun x => by
          have hr := (HR.out x).1
          rw [e1, its_nil] at hr
          simpa using hr
        have hM : a = M := by
          have hr := (HR.out 0).2
          rw [e1, its_nil] at hr
          exact hr
        rw [hTF] at HS
        subst hM
        have HI := Lib.hid (item_end s a wr hs (by omega) (by omega))
        clear e1 hTF
        go_wp2_with fail
        refine HI.out.mono ?_
        rintro e w' ⟨rfl, rfl⟩
        go_wp2
        go_meet
        case rel => exact ⟨rfl, HS, HF⟩
      by_cases h93 : s[a] = 93
      · have e1 : (bl s).drop a = 93 :: (bl s).drop (a + 1) := by rw [bl_drop s a ha, h93]
        have hTF : T = F := funext fun x => by
          have hr := (HR.out x).1
          rw [e1, its_end] at hr
          simpa using hr
        have hM : a = M := by
          have hr := (HR.out 0).2
          rw [e1, its_end] at hr
          exact hr
        rw [hTF] at HS
        subst hM
        have HI := Lib.hid (item_shut s a wr hs ha h93)
        clear e1 hTF h93
        go_wp2_with fail
        refine HI.out.mono ?_
        rintro e w' ⟨rfl, rfl⟩
        go_wp2
        go_meet
        case rel => exact ⟨rfl, HS, HF⟩
      have hst := fun x => rest_step (HR.out x) ha h93
      have hle := (hst 0).2
      have HST : Hid (∀ x, Rest s x (F x) M (a + (item ((bl s).drop a)).2) (T x || within x (item ((bl s).drop a)).1)) := fun x => (hst x).1
      have HA := Lib.hid (item_at s a wr hs ha h93)
      obtain ⟨n, hn⟩ : ∃ n, (lit ((bl s).drop a)).2 = n := ⟨_, rfl⟩
      obtain ⟨lo, hlo⟩ : ∃ lo, (lit ((bl s).drop a)).1 = lo := ⟨_, rfl⟩
      have hnp := lit_pos ((bl s).drop a)
      have hnl := lit_le ((bl s).drop a) (by rw [bl_drop s a ha]; simp)
      rw [List.length_drop, bl_len] at hnl
      rw [hn] at hnp hnl
      unfold itemV b8 at HA
      rw [hn, hlo] at HA
      have HN0 := Lib.hid hn
      have HLO := Lib.hid hlo
      obtain ⟨m, hm⟩ : ∃ m, (item ((bl s).drop a)).2 = m := ⟨_, rfl⟩
      obtain ⟨hi, hhi⟩ : ∃ hi, (item ((bl s).drop a)).1.2 = hi := ⟨_, rfl⟩
      have hitem : item ((bl s).drop a) = ((lo, hi), m) := by
        have h1 : (item ((bl s).drop a)).1.1 = lo := by
          rw [← hlo]
          unfold item
          split
          · split <;> rfl
          · rfl
        rw [← h1, ← hhi, ← hm]
      rw [hitem] at HST
      rw [hm] at hle
      have HIT := Lib.hid hitem
      clear hst hn hlo h93 hm hhi hitem
      go_wp2_with fail
      refine HA.out.mono ?_
      rintro e w' ⟨rfl, rfl⟩
      obtain ⟨rg, hrg⟩ : ∃ rg, Hid ((rg = true ∧ ∃ h1 : a + n + 1 < s.size, s[a + n] = 45 ∧ s[a + n + 1] ≠ 93) ∨ (rg = false ∧ (¬ a + n + 1 < s.size ∨ ∃ h1 : a + n + 1 < s.size, s[a + n] ≠ 45 ∨ s[a + n + 1] = 93))) := by
        by_cases h1 : a + n + 1 < s.size
        · by_cases h2 : s[a + n] = 45 ∧ s[a + n + 1] ≠ 93
          · exact ⟨true, .inl ⟨rfl, h1, h2⟩⟩
          · refine ⟨false, .inr ⟨rfl, .inr ⟨h1, ?_⟩⟩⟩
            by_cases h3 : s[a + n] = 45
            · right
              by_cases h4 : s[a + n + 1] = 93
              · exact h4
              · exact absurd ⟨h3, h4⟩ h2
            · exact .inl h3
        · exact ⟨false, .inr ⟨rfl, .inl h1⟩⟩
      obtain ⟨dq, hdq⟩ : ∃ dq, Hid (dq = true ↔ ∃ h : a + n < s.size, s[a + n] = 45) := by
        by_cases h : ∃ h : a + n < s.size, s[a + n] = 45
        · exact ⟨true, ⟨fun _ => h, fun _ => rfl⟩⟩
        · exact ⟨false, ⟨fun e => (by cases e), fun e => absurd e h⟩⟩
      go_upto_region 9 with (fail)
      go_cut [50] from 41 to 50 (fun t wc => wr = wc ∧ t = .bool dq)
      case first =>
        by_cases h1 : a + n < s.size
        · by_cases h2 : s[a + n] = 45
          · obtain rfl : dq = true := hdq.out.2 ⟨h1, h2⟩
            have q1 : (((s[a + n].toNat : Nat) : Int) == 45) = true := by rw [h2]; rfl
            clear h2
            go_wp2
            go_meet
            case rel => exact ⟨rfl, rfl⟩
          · obtain rfl : dq = false := by
              cases dq with
              | false => rfl
              | true => obtain ⟨_, h⟩ := hdq.out.1 rfl; exact absurd h h2
            have q1 : (((s[a + n].toNat : Nat) : Int) == 45) = false := byte_ne _ 45 (by decide) h2
            clear h2
            go_wp2
            go_meet
            case rel => exact ⟨rfl, rfl⟩
        · obtain rfl : dq = false := by
            cases dq with
            | false => rfl
            | true => obtain ⟨h, _⟩ := hdq.out.1 rfl; exact absurd h h1
          have q1 : decide ((a : Int) + n < s.size) = false := by simp; omega
          go_wp2
          go_meet
          case rel => exact ⟨rfl, rfl⟩
      case rest =>
      obtain ⟨rfl, rfl⟩ := hcut
      obtain ⟨wr, rfl⟩ : ∃ wr', wr' = wr := ⟨_, rfl⟩
      go_upto_if 50 with (fail)
      go_cut [1, 11, 12, 13, 14] from 51 to 61 (fun t1 t11 t12 t13 t14 wc => wr = wc ∧ t1 = .int .i64 ((a + m : Nat) : Int) ∧ t11 = .int .u8 (hi.toNat : Int))
      case first =>
        rcases hrg.out with ⟨rfl, h1, h2, h3⟩ | ⟨rfl, h1⟩
        · obtain rfl : dq = true := hdq.out.2 ⟨by omega, h2⟩
          have hit := item_range s a ha n HN0.out.symm h1 h2 h3
          rw [HIT.out] at hit
          have hm2 : m = n + 1 + (lit ((bl s).drop (a + n + 1))).2 := congrArg Prod.snd hit
          have hh2 : hi = (lit ((bl s).drop (a + n + 1))).1 := congrArg (fun z => z.1.2) hit
          have HA2 := item_at s (a + n + 1) wr hs h1 h3
          unfold itemV b8 at HA2
          rw [← hh2] at HA2
          have HA3 := Lib.hid HA2
          have HM2 := Lib.hid hm2
          have hl2 := lit_pos ((bl s).drop (a + n + 1))
          obtain ⟨n2, hn2⟩ : ∃ n2, (lit ((bl s).drop (a + n + 1))).2 = n2 := ⟨_, rfl⟩
          rw [hn2] at HA3 HM2 hl2
          clear h2 h3 hit hm2 hh2 HA2 hn2
          go_wp2_with fail
          refine HA3.out.mono ?_
          rintro e w' ⟨rfl, rfl⟩
          go_wp2
          go_meet
          case rel =>
            refine ⟨rfl, ?_, rfl⟩
            rw [HM2.out]
            first | rfl | (congr 1; omega) | (simp; omega)
        · have hit := item_one s a ha n HN0.out.symm h1
          rw [HIT.out] at hit
          have hm2 : m = n := congrArg Prod.snd hit
          have hh2 : hi = (lit ((bl s).drop a)).1 := congrArg (fun z => z.1.2) hit
          rw [HLO.out] at hh2
          subst hm2
          subst hh2
          clear hit
          cases dq with
          | false =>
            clear h1
            go_wp2
            go_meet
            case rel => exact ⟨rfl, rfl, rfl⟩
          | true =>
            obtain ⟨g1, g2⟩ := hdq.out.1 rfl
            have HI : Hid (∀ w : World, Calls Tryz.prog 63 #[.string s, .int .i64 ((a + m + 1 : Nat) : Int)] w fun e w' => e = .returned (.tuple #[.int .u8 0, .int .i64 ((a + m + 1 : Nat) : Int), .bool false]) ∧ w = w') := fun w => by
              by_cases h2 : a + m + 1 < s.size
              · have h3 : s[a + m + 1] = 93 := by
                  rcases h1 with h1 | ⟨_, h1 | h1⟩
                  · exact absurd h2 h1
                  · exact absurd g2 h1
                  · exact h1
                exact item_shut s (a + m + 1) w hs h2 h3
              · exact item_end s (a + m + 1) w hs (by omega) (by omega)
            clear h1 g2
            go_wp2_with fail
            refine (HI.out _).mono ?_
            rintro e w' ⟨rfl, rfl⟩
            go_wp2
            go_meet
            case rel => exact ⟨rfl, rfl, rfl⟩
      case rest =>
      obtain ⟨rfl, rfl, rfl⟩ := hcut
      obtain ⟨T', hT'⟩ : ∃ T' : UInt8 → Bool, (fun x => T x || within x (lo, hi)) = T' := ⟨_, rfl⟩
      have HT' : Hid (∀ x, T' x = (T x || within x (lo, hi))) := fun x => by rw [← hT']
      have HST' : Hid (∀ x, Rest s x (F x) M (a + m) (T' x)) := fun x => by rw [HT'.out x]; exact HST.out x
      have hlo8 : lo.toNat < 256 := lo.toNat_lt
      have hhi8 : hi.toNat < 256 := hi.toNat_lt
      clear hT'
      go_wp2_with fail
      go_loopg [15] 256 (fun gh x wx => ∃ (j : Nat), Hid (j + gh = 256) ∧ x = .int .i64 j ∧ Hid (SignAt wx (w.heap.size + 1) false (upd T T' j) 0 false) ∧ Hid (Fr (fun i => i = w.heap.size + 1) w1 wx))
      case atStart => exact ⟨0, rfl, rfl, by rw [upd_zero]; exact HS, HF⟩
      case round =>
        obtain ⟨j, HJ, rfl, HSJ, HFJ⟩ := hrel
        by_cases hj : j < 256
        · obtain ⟨bt, hbt⟩ : ∃ bt, within (UInt8.ofNat j) (lo, hi) = bt := ⟨_, rfl⟩
          have hbi : (bt = true) ↔ ((lo.toNat ≤ j ∧ j ≤ hi.toNat) ∨ (hi.toNat ≤ j ∧ j ≤ lo.toNat)) := by
            rw [← hbt]
            have hw := within_eq (UInt8.ofNat j) lo hi
            rw [ofNat_toNat j hj] at hw
            rw [← hw]
            simp only [Bool.and_eq_true, decide_eq_true_eq]
            omega
          have HBI := Lib.hid hbi
          have HTJ : Hid (T' (UInt8.ofNat j) = (T (UInt8.ofNat j) || bt)) := by show _ = _; rw [HT'.out, hbt]
          have hz := HSJ.out.frozen (1 + j)
          have hc := HSJ.out.tab j hj
          have hj0 : (0 : Int) ≤ (j : Int) := by omega
          have hj1 : (j : Int) < 256 := by omega
          clear hbt hbi
          go_upto_region 17 with (fail)
          go_cut [87] from 66 to 87 (fun t wc => wr = wc ∧ t = .bool bt)
          case first =>
            go_wp2
            all_goals
              go_meet
              case rel =>
                refine ⟨rfl, congrArg Value.bool ?_⟩
                have hq := HBI.out
                cases bt with
                | false =>
                  simp only [Bool.false_eq_true, false_iff, not_or, not_and, Nat.not_le] at hq
                  first | rfl | (exfalso; omega) | (simp; omega)
                | true =>
                  simp only [true_iff] at hq
                  first | rfl | (exfalso; omega) | (simp; omega)
          case rest =>
          obtain ⟨rfl, rfl⟩ := hcut
          cases bt with
          | true =>
            have hset := HSJ.out.set (T' := T') hj
            have e1 : T' (UInt8.ofNat j) = true := by rw [HTJ.out, Bool.or_true]
            rw [e1] at hset
            have HSET := Lib.hid hset
            have HFR := Lib.hid (HFJ.out.trans (Fr.setCell wr ⟨w.heap.size + 1, 1 + j, none⟩ (.bool true)) (fun i hi _ => hi))
            clear hset e1
            go_wp2
            go_roundg (256 - (j + 1))
            case measure => have := HJ.out; omega
            case rel => exact ⟨j + 1, by show _ = _; omega, by go_num, HSET, HFR⟩
          | false =>
            have e1 : T' (UInt8.ofNat j) = T (UInt8.ofNat j) := by rw [HTJ.out, Bool.or_false]
            have HSET := Lib.hid (HSJ.out.keep hj e1)
            clear e1
            go_wp2
            go_roundg (256 - (j + 1))
            case measure => have := HJ.out; omega
            case rel => exact ⟨j + 1, by show _ = _; omega, by go_num, HSET, HFJ⟩
        · obtain rfl : j = 256 := by have := HJ.out; omega
          rw [upd_all] at HSJ
          go_wp2
          go_roundg (s.size - (a + m))
          case measure =>
            have := HG.out
            have := item_pos ((bl s).drop a)
            rw [HIT.out] at this
            simp only at this
            omega
          case rel => exact ⟨a + m, T', by show _ = _; omega, rfl, HST', HSJ, HFJ⟩
  case rest =>
    obtain ⟨rfl, HS, HF⟩ := hcut
    obtain ⟨w2, rfl⟩ : ∃ w2, w2 = wc := ⟨_, rfl⟩
    go_upto_if 94 with (fail)
    go_cut [1] from 91 to 96 (fun a wc => wc = w2 ∧ a = .int .i64 ((min (M + 1) s.size : Nat) : Int))
    case first =>
      by_cases hM1 : M < s.size
      · have hm : min (M + 1) s.size = M + 1 := by omega
        have HMM := Lib.hid hm
        have g : decide (M < s.size) = true := by simpa using hM1
        clear hm
        go_wp2
        go_meet
        case rel => exact ⟨rfl, by rw [HMM.out]; rfl⟩
      · have hm : min (M + 1) s.size = M := by omega
        have HMM := Lib.hid hm
        have g : decide (M < s.size) = false := by simpa using hM1
        clear hm
        go_wp2
        go_meet
        case rel => exact ⟨rfl, by rw [HMM.out]⟩
    case rest =>
    obtain ⟨rfl, rfl⟩ := hcut
    rw [← hfin.out.2]
    obtain ⟨P, hP⟩ : ∃ P, k + (setAt ((bl s).drop k)).2 = P := ⟨_, rfl⟩
    obtain ⟨G, hG⟩ : ∃ G, (setAt ((bl s).drop k)).1 = G := ⟨_, rfl⟩
    have HG : Hid (G = fun x => F x != N) := by show _ = _; rw [← hG]; exact hfin.out.1
    rw [hP]
    have HP : Hid (k + (setAt ((bl s).drop k)).2 = P ∧ (setAt ((bl s).drop k)).1 = G) := ⟨hP, hG⟩
    clear hP hG
    obtain ⟨w2, rfl⟩ : ∃ w2, w2 = wc := ⟨_, rfl⟩
    go_upto_if 97 with (fail)
    go_cut [16] from 98 to 109 (fun x wc => Hid (SignAt wc (w.heap.size + 1) false G 0 false) ∧ Hid (Fr (fun i => i = w.heap.size + 1) w1 wc))
    case first =>
      cases N with
      | false =>
        have e : G = F := by rw [HG.out]; funext x; cases F x <;> rfl
        rw [← e] at HS
        clear e
        go_wp2
        go_meet
        case rel => exact ⟨HS, HF⟩
      | true =>
        have HGN : Hid (∀ x, G x = !F x) := fun x => by rw [HG.out]; show (F x != true) = !F x; cases F x <;> rfl
        go_wp2
        go_loopg [16] 256 (fun gh x wx => ∃ (j : Nat), Hid (j + gh = 256) ∧ x = .int .i64 j ∧ Hid (SignAt wx (w.heap.size + 1) false (upd F G j) 0 false) ∧ Hid (Fr (fun i => i = w.heap.size + 1) w1 wx))
        case atStart => exact ⟨0, rfl, rfl, by rw [upd_zero]; exact HS, HF⟩
        case round =>
          obtain ⟨j, HJ, rfl, HSJ, HFJ⟩ := hrel
          by_cases hj : j < 256
          · have hz := HSJ.out.frozen (1 + j)
            have hc := HSJ.out.tab j hj
            have e0 : upd F G j (UInt8.ofNat j) = F (UInt8.ofNat j) := by unfold upd; rw [ofNat_toNat j hj, if_neg (by omega)]
            rw [e0] at hc
            have hset := HSJ.out.set (T' := G) hj
            rw [HGN.out] at hset
            obtain ⟨fj, hfj⟩ : ∃ fj, F (UInt8.ofNat j) = fj := ⟨_, rfl⟩
            rw [hfj] at hc hset
            have HSET := Lib.hid hset
            have HFR := Lib.hid (HFJ.out.trans (Fr.setCell wr ⟨w.heap.size + 1, 1 + j, none⟩ (.bool (!fj))) (fun i hi _ => hi))
            have hj0 : (0 : Int) ≤ (j : Int) := by omega
            have hj1 : (j : Int) < 256 := by omega
            clear hset hfj e0
            go_wp2
            go_roundg (256 - (j + 1))
            case measure => have := HJ.out; omega
            case rel => exact ⟨j + 1, by show _ = _; omega, by go_num, HSET, HFR⟩
          · obtain rfl : j = 256 := by have := HJ.out; omega
            rw [upd_all] at HSJ
            go_wp2
            go_meet
            case rel => exact ⟨HSJ, HFJ⟩
    case rest =>
    obtain ⟨HS9, HF9⟩ := hcut
    have ho := (HF9.out.block w.heap.size (Array.getElem?_eq_some_iff.1 HO.out).1 (by omega)).trans HO.out
    have hs9 := HS9.out
    unfold SignAt at hs9 ho
    have hbl : Below w.heap.size w wc := HB.out.trans (HF9.out.below HB.out.size (fun i h => by rw [h]; omega))
    obtain ⟨Z, hZ⟩ : ∃ Z, (signC false G 0 false).toArray = Z := ⟨_, rfl⟩
    obtain ⟨Y, hY⟩ : ∃ Y, (signC false (fun _ => false) 0 false).toArray = Y := ⟨_, rfl⟩
    have hzs : Z.size = 259 := by rw [← hZ, List.size_toArray, signC_len]
    have hys : Y.size = 259 := by rw [← hY, List.size_toArray, signC_len]
    have hz1 : Z.all (·.oneCell') = true := by rw [← hZ]; exact signC_one _ _ _ _
    have hi : (Tryz.prog.info? 83).map (·.size) = some Z.size := by rw [hzs]; kernel_rfl
    have hfinal : Hid ((.tuple #[.agg (signC false (setAt ((bl s).drop k)).1 0 false).toArray, .int .i64 ((k + (setAt ((bl s).drop k)).2 : Nat) : Int)] : Value) = .tuple #[.agg Z, .int .i64 (P : Int)]) := by
      show _ = _
      rw [HP.out.1, HP.out.2, hZ]
    rw [hZ] at hs9
    rw [hY] at ho
    have HO9 := Lib.hid ho
    have HS9' := Lib.hid hs9
    have HBL := Lib.hid hbl
    have HYS : Hid (Y.size = Z.size) := hys.trans hzs.symm
    have HI := Lib.hid hi
    have HZ1 := Lib.hid hz1
    clear hZ hY hzs hys hz1 hi hs9 ho hbl HS9 HF9
    go_wp2_with (first
      | (refine wpList_load_row rfl 83 (.tmp 6) rfl (w.heap.size + 1) rfl 83 Z (0, 0) _ HS9'.out Tryz.underlying83 rfl HI.out ?_)
      | (refine wpList_store_rowTo rfl 83 (.tmp 4) (.tmp 110) rfl rfl w.heap.size Z rfl rfl 83 Y HO9.out HI.out HYS.out HZ1.out ?_))
    have hrow := setRow_heap wc w.heap.size Y Z 83 (0, 0) HO9.out
    have hload := run_loadVar_row (P := Tryz.prog) (wc.setRow w.heap.size Z) w.heap.size 83 83 Z (0, 0) _ hrow Tryz.underlying83 rfl HI.out
    refine bodyPost_ret (v := .tuple #[.agg Z, .int .i64 (P : Int)]) ?_ rfl ⟨(congrArg Ending.returned hfinal.out).symm, ?_⟩
    · simp [results, Tryz.results50, asAddr, hload]
    · exact HBL.out.trans ⟨rfl, rfl, rfl, by simp, fun q hq => setRow_other _ _ _ _ (by omega)⟩
end Go.Proofs.YtleoeccjnchclaaGreatDoor

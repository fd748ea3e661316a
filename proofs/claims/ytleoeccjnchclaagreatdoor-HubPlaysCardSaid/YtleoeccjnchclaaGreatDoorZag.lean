/- The walk of glob's inSet. No condition but sizes. -/
import Derived.Test.YtleoeccjnchclaaGreatDoorZaf
namespace Go.Proofs.YtleoeccjnchclaaGreatDoor
open Go.RowKit

def setV (q : Bytes) (k : Nat) (x : UInt8) : Value := .tuple #[.bool ((setAt q).1 x), .int .i64 ((k + (setAt q).2 : Nat) : Int)]
theorem neg_cons (c : UInt8) (q : Bytes) : neg (c :: q) = (c == 94) := by
  by_cases h : c = 94
  · subst h; rfl
  · unfold neg
    rw [show (c == 94) = false by simpa using h]
    split
    · rename_i e; cases e; exact absurd rfl h
    · rfl
/-- what is left of the set at a place: that it means the byte, and where it ends -/
def Rest (s : ByteArray) (x : UInt8) (Q : Bool) (N : Nat) (a : Nat) (b : Bool) : Prop := (b || (its ((bl s).drop a)).1.any (within x)) = Q ∧ a + (its ((bl s).drop a)).2 = N
theorem u8_beq (a : UInt8) (n : Nat) (b : Bool) (hn : n < 256) (h : (a == UInt8.ofNat n) = b) : (((a.toNat : Nat) : Int) == (n : Int)) = b := by
  rw [← h]
  have : ((n : Nat) : Int) = (((UInt8.ofNat n).toNat : Nat) : Int) := by rw [UInt8.toNat_ofNat']; omega
  rw [this, byte_beq]
theorem rest_step {s : ByteArray} {x : UInt8} {Q : Bool} {N a : Nat} {b : Bool} (h : Rest s x Q N a b) (ha : a < s.size) (h93 : s[a] ≠ 93) :
    Rest s x Q N (a + (item ((bl s).drop a)).2) (b || within x (item ((bl s).drop a)).1) ∧ a + (item ((bl s).drop a)).2 ≤ s.size := by
  obtain ⟨h1, h2⟩ := h
  have hd := bl_drop s a ha
  have hi := its_cons s[a] ((bl s).drop (a + 1)) h93
  rw [← hd, List.drop_drop] at hi
  rw [hi] at h1 h2
  have hl := item_le ((bl s).drop a) (by rw [hd]; simp)
  rw [List.length_drop, bl_len] at hl
  refine ⟨⟨?_, ?_⟩, by omega⟩
  · rw [← h1]; simp [Bool.or_assoc]
  · rw [← h2]; simp only; omega
set_option maxRecDepth 100000 in
set_option maxHeartbeats 2000000 in
theorem inSet_any (s : ByteArray) (k : Nat) (x : UInt8) (w : World) (hs : s.size < 4611686018427387904) (hk : k ≤ s.size) :
    Calls Tryz.prog 53 #[.string s, .int .i64 k, .int .u8 x.toNat] w fun e w' => e = .returned (setV ((bl s).drop k) k x) ∧ w = w' := by
  obtain ⟨q, hq⟩ : ∃ q, (bl s).drop k = q := ⟨_, rfl⟩
  obtain ⟨ng, hng⟩ : ∃ ng, neg q = ng := ⟨_, rfl⟩
  obtain ⟨kn, hkn⟩ : ∃ n, negN q = n := ⟨_, rfl⟩
  have hkn1 : kn ≤ 1 := by rw [← hkn]; unfold negN; split <;> omega
  have hkk : k + kn ≤ s.size := by
    by_cases hlt : k < s.size
    · omega
    · have : kn = 0 := by
        rw [← hkn, ← hq, bl_end s k (by omega)]; rfl
      omega
  have hset := setAt_eq q
  rw [hng, hkn] at hset
  have hdr : q.drop kn = (bl s).drop (k + kn) := by rw [← hq, List.drop_drop]
  rw [hdr] at hset
  have hql : q.length = s.size - k := by rw [← hq, List.length_drop, bl_len]
  rw [hql] at hset
  obtain ⟨Q, hQ⟩ : ∃ Q, (its ((bl s).drop (k + kn))).1.any (within x) = Q := ⟨_, rfl⟩
  obtain ⟨N, hN⟩ : ∃ N, k + kn + (its ((bl s).drop (k + kn))).2 = N := ⟨_, rfl⟩
  have hNs : N ≤ s.size := by
    have := its_le ((bl s).drop (k + kn))
    rw [List.length_drop, bl_len] at this
    omega
  have hfin : Hid (setV q k x = .tuple #[.bool (Q != ng), .int .i64 ((min (N + 1) s.size : Nat) : Int)]) := by
    show _ = _
    unfold setV
    rw [hset]
    simp only
    rw [hQ]
    congr 5
    omega
  have hstart : Hid (Rest s x Q N (k + kn) false) := by
    show Rest _ _ _ _ _ _
    exact ⟨by rw [hQ]; rfl, hN⟩
  have hneg : Hid ((∃ h : k < s.size, (((s[k].toNat : Nat) : Int) == 94) = ng) ∨ (¬ k < s.size ∧ ng = false)) := by
    show _ ∨ _
    by_cases hlt : k < s.size
    · left
      refine ⟨hlt, u8_beq s[k] 94 ng (by decide) ?_⟩
      rw [← hng, ← hq, bl_drop s k hlt, neg_cons]; rfl
    · right
      refine ⟨hlt, ?_⟩
      rw [← hng, ← hq, bl_end s k (by omega)]; rfl
  have hknv : Hid ((ng = true ∧ kn = 1) ∨ (ng = false ∧ kn = 0)) := by
    show _ ∨ _
    cases ng with
    | true => exact .inl ⟨rfl, by rw [← hkn]; unfold negN; rw [hng]; rfl⟩
    | false => exact .inr ⟨rfl, by rw [← hkn]; unfold negN; rw [hng]; rfl⟩
  have HQ := Lib.hid hq
  rw [hq]
  clear hset hdr hql hng hkn hq hQ hN
  go_enter Tryz.func53, Tryz.ntmps53
  go_upto_region 1 with (fail)
  go_cut [8] from 12 to 21 (fun t wc => wc = w ∧ t = .bool ng)
  case first =>
    rcases hneg.out with ⟨h, he⟩ | ⟨h, rfl⟩
    · go_wp2
      go_meet
      case rel => exact ⟨rfl, rfl⟩
    · have g1 : decide (k < s.size) = false := by simpa using h
      go_wp2
      go_meet
      case rel => exact ⟨rfl, rfl⟩
  case rest =>
    obtain ⟨rfl, rfl⟩ := hcut
    go_upto_if 22 with (fail)
    go_cut [1] from 23 to 24 (fun t wc' => wc' = wc ∧ t = .int .i64 ((k + kn : Nat) : Int))
    case first =>
      rcases hknv.out with ⟨rfl, rfl⟩ | ⟨rfl, rfl⟩
      · go_wp2
        go_meet
        case rel => exact ⟨rfl, by go_num⟩
      · go_wp2
        go_meet
        case rel => exact ⟨rfl, rfl⟩
    case rest =>
      obtain ⟨rfl, rfl⟩ := hcut
      obtain ⟨w1, rfl⟩ : ∃ w1, w1 = wc := ⟨_, rfl⟩
      go_upto_block 0 with (fail)
      go_cut [1, 6] from 9 to 82 (fun a b wc => wc = w1 ∧ a = .int .i64 (N : Int) ∧ b = .bool Q)
      case first =>
        go_wp2
        go_loopg [1, 6] (s.size - (k + kn)) (fun gh a b wr => w1 = wr ∧ ∃ (a0 : Nat) (b0 : Bool), Hid (a0 + gh = s.size) ∧ a = .int .i64 a0 ∧ b = .bool b0 ∧ Hid (Rest s x Q N a0 b0))
        case atStart => exact ⟨rfl, k + kn, false, by show _ = _; omega, rfl, rfl, hstart⟩
        case round =>
          obtain ⟨rfl, a, b, HG, rfl, rfl, HR⟩ := hrel
          have hale : a ≤ s.size := by have := HG.out; omega
          by_cases ha : a < s.size
          case neg =>
            have e1 : (bl s).drop a = [] := bl_end s a (by omega)
            have hr := HR.out
            unfold Rest at hr
            rw [e1, its_nil] at hr
            obtain ⟨r1, r2⟩ := hr
            have r1' : b = Q := by simpa using r1
            have r2' : a = N := r2
            have g1 : decide (a < s.size) = false := by simpa using ha
            subst r1'
            subst r2'
            clear r1 r2 e1 hfin hstart hneg hknv HQ
            go_wp2
            go_meet
            case rel => exact ⟨rfl, rfl, rfl⟩
          by_cases h93 : s[a] = 93
          · have e1 : (bl s).drop a = 93 :: (bl s).drop (a + 1) := by rw [bl_drop s a ha, h93]
            have hr := HR.out
            unfold Rest at hr
            rw [e1, its_end] at hr
            obtain ⟨r1, r2⟩ := hr
            have r1' : b = Q := by simpa using r1
            have r2' : a = N := r2
            have g1 : (((s[a].toNat : Nat) : Int) != 93) = false := by rw [h93]; rfl
            subst r1'
            subst r2'
            clear r1 r2 e1 hfin hstart hneg hknv HQ h93
            go_wp2
            go_meet
            case rel => exact ⟨rfl, rfl, rfl⟩
          · have g1 : (((s[a].toNat : Nat) : Int) != 93) = true := by
              rw [bne_iff_ne]
              intro e
              exact h93 (UInt8.toNat_inj.1 (by show s[a].toNat = 93; omega))
            obtain ⟨hst, hle⟩ := rest_step HR.out ha h93
            have HST := Lib.hid hst
            have HA := Lib.hid (literal_any s a w1 hs ha)
            obtain ⟨n, hn⟩ : ∃ n, (lit ((bl s).drop a)).2 = n := ⟨_, rfl⟩
            obtain ⟨lo, hlo⟩ : ∃ lo, (lit ((bl s).drop a)).1 = lo := ⟨_, rfl⟩
            have hnp := lit_pos ((bl s).drop a)
            have hnl := lit_le ((bl s).drop a) (by rw [bl_drop s a ha]; simp)
            rw [List.length_drop, bl_len] at hnl
            rw [hn] at hnp hnl
            unfold litV b8 at HA
            rw [hn, hlo] at HA
            have H93 := Lib.hid h93
            have HN := Lib.hid hn
            have HLO := Lib.hid hlo
            obtain ⟨m, hm⟩ : ∃ m, (item ((bl s).drop a)).2 = m := ⟨_, rfl⟩
            obtain ⟨hi, hhi⟩ : ∃ hi, (item ((bl s).drop a)).1.2 = hi := ⟨_, rfl⟩
            have hitem : item ((bl s).drop a) = ((lo, hi), m) := by
              have h1 : (item ((bl s).drop a)).1.1 = lo := by
                rw [← hlo]
                unfold item
                split
                · split <;> rfl
                · rfl
              rw [← h1, ← hhi, ← hm]
            rw [hitem] at HST
            rw [hm] at hle
            have HIT := Lib.hid hitem
            clear hst hn hlo h93 hm hhi hitem hfin hstart hneg hknv HQ
            go_wp2_with fail
            refine HA.out.mono ?_
            rintro e w' ⟨rfl, rfl⟩
            obtain ⟨rg, hrg⟩ : ∃ rg, Hid ((rg = true ∧ ∃ h1 : a + n + 1 < s.size, s[a + n] = 45 ∧ s[a + n + 1] ≠ 93) ∨ (rg = false ∧ (¬ a + n + 1 < s.size ∨ ∃ h1 : a + n + 1 < s.size, s[a + n] ≠ 45 ∨ s[a + n + 1] = 93))) := by
              by_cases h1 : a + n + 1 < s.size
              · by_cases h2 : s[a + n] = 45 ∧ s[a + n + 1] ≠ 93
                · exact ⟨true, .inl ⟨rfl, h1, h2⟩⟩
                · refine ⟨false, .inr ⟨rfl, .inr ⟨h1, ?_⟩⟩⟩
                  by_cases h3 : s[a + n] = 45
                  · right
                    by_cases h4 : s[a + n + 1] = 93
                    · exact h4
                    · exact absurd ⟨h3, h4⟩ h2
                  · exact .inl h3
              · exact ⟨false, .inr ⟨rfl, .inl h1⟩⟩
            go_upto_region 7 with (fail)
            go_cut [59] from 42 to 59 (fun t wc => w1 = wc ∧ t = .bool rg)
            case first =>
              rcases hrg.out with ⟨rfl, h1, h2, h3⟩ | ⟨rfl, h1 | ⟨h1, h2⟩⟩
              · have q1 : (((s[a + n].toNat : Nat) : Int) == 45) = true := by rw [h2]; rfl
                have q2 : (((s[a + n + 1].toNat : Nat) : Int) != 93) = true := by
                  rw [bne_iff_ne]; intro e; exact h3 (UInt8.toNat_inj.1 (by show s[a + n + 1].toNat = 93; omega))
                clear h2 h3
                go_wp2
                go_meet
                case rel => exact ⟨rfl, rfl⟩
              · have q1 : decide ((a : Int) + n + 1 < s.size) = false := by simp; omega
                go_wp2
                go_meet
                case rel => exact ⟨rfl, rfl⟩
              · by_cases h3 : s[a + n] = 45
                · have h4 := h2.resolve_left (fun e => e h3)
                  have q1 : (((s[a + n].toNat : Nat) : Int) == 45) = true := by rw [h3]; rfl
                  have q2 : (((s[a + n + 1].toNat : Nat) : Int) != 93) = false := by rw [h4]; rfl
                  clear h2 h3 h4
                  go_wp2
                  go_meet
                  case rel => exact ⟨rfl, rfl⟩
                · have q1 : (((s[a + n].toNat : Nat) : Int) == 45) = false := by
                    rw [beq_eq_false_iff_ne]; intro e; exact h3 (UInt8.toNat_inj.1 (by show s[a + n].toNat = 45; omega))
                  clear h2 h3
                  go_wp2
                  go_meet
                  case rel => exact ⟨rfl, rfl⟩
            case rest =>
              obtain ⟨rfl, rfl⟩ := hcut
              obtain ⟨w1, rfl⟩ : ∃ w1', w1' = w1 := ⟨_, rfl⟩
              go_upto_if 59 with (fail)
              go_cut [10, 11] from 60 to 66 (fun t10 t11 wc => w1 = wc ∧ t10 = .int .i64 ((a + m : Nat) : Int) ∧ t11 = .int .u8 (hi.toNat : Int))
              case first =>
                rcases hrg.out with ⟨rfl, h1, h2, h3⟩ | ⟨rfl, h1⟩
                · have hit := item_range s a ha n HN.out.symm h1 h2 h3
                  rw [HIT.out] at hit
                  have hm2 : m = n + 1 + (lit ((bl s).drop (a + n + 1))).2 := congrArg Prod.snd hit
                  have hh2 : hi = (lit ((bl s).drop (a + n + 1))).1 := congrArg (fun z => z.1.2) hit
                  have HA2 := literal_any s (a + n + 1) w1 hs h1
                  unfold litV b8 at HA2
                  rw [← hh2] at HA2
                  have HA3 := Lib.hid HA2
                  have HM2 := Lib.hid hm2
                  have hl2 := lit_pos ((bl s).drop (a + n + 1))
                  obtain ⟨n2, hn2⟩ : ∃ n2, (lit ((bl s).drop (a + n + 1))).2 = n2 := ⟨_, rfl⟩
                  rw [hn2] at HA3 HM2 hl2
                  clear h2 h3 hit hm2 hh2 HA2 hn2
                  go_wp2_with fail
                  refine HA3.out.mono ?_
                  rintro e w' ⟨rfl, rfl⟩
                  go_wp2
                  go_meet
                  case rel =>
                    refine ⟨rfl, ?_, rfl⟩
                    rw [HM2.out]
                    first | rfl | (congr 1; omega) | (simp; omega)
                · have hit := item_one s a ha n HN.out.symm h1
                  rw [HIT.out] at hit
                  have hm2 : m = n := congrArg Prod.snd hit
                  have hh2 : hi = (lit ((bl s).drop a)).1 := congrArg (fun z => z.1.2) hit
                  rw [HLO.out] at hh2
                  subst hm2
                  subst hh2
                  clear hit h1
                  go_wp2
                  go_meet
                  case rel => exact ⟨rfl, rfl, rfl⟩
              case rest =>
                obtain ⟨rfl, rfl, rfl⟩ := hcut
                go_upto_region 9 with (fail)
                go_cut [6] from 67 to 81 (fun t wc => w1 = wc ∧ t = .bool (b || within x (lo, hi)))
                case first =>
                  have hw := within_eq x lo hi
                  cases b with
                  | true =>
                    clear hw
                    go_wp2
                    go_meet
                    case rel => exact ⟨rfl, rfl⟩
                  | false =>
                    have HW := Lib.hid hw
                    clear hw
                    go_wp2
                    all_goals
                      go_meet
                      case rel =>
                        refine ⟨rfl, congrArg Value.bool ?_⟩
                        rw [Bool.false_or, ← HW.out, Bool.eq_iff_iff]
                        simp only [Bool.and_eq_true, decide_eq_true_eq, Bool.false_eq_true, false_iff]
                        omega
                case rest =>
                  obtain ⟨rfl, rfl⟩ := hcut
                  go_wp2
                  go_roundg (s.size - (a + m))
                  case measure =>
                    have := HG.out
                    have := item_pos ((bl s).drop a)
                    rw [HIT.out] at this
                    simp only at this
                    omega
                  case rel => exact ⟨rfl, a + m, _, by show _ = _; omega, rfl, rfl, HST⟩
      case rest =>
        obtain ⟨rfl, rfl, rfl⟩ := hcut
        have hbb : (Q != ng) = !(Q == ng) := rfl
        by_cases hN1 : N + 1 ≤ s.size
        · have hm : min (N + 1) s.size = N + 1 := by omega
          have HM := Lib.hid hm
          have hi1 : (N : Int) + 1 ≤ s.size := by omega
          clear hm hbb
          go_wp2
          go_ret2
          refine ⟨?_, rfl⟩
          rw [hfin.out, HM.out]
          rfl
        · have hm : min (N + 1) s.size = s.size := by omega
          have HM := Lib.hid hm
          have hi1 : (s.size : Int) < N + 1 := by omega
          clear hm hbb
          go_wp2
          go_ret2
          refine ⟨?_, rfl⟩
          rw [hfin.out, HM.out]
          rfl
end Go.Proofs.YtleoeccjnchclaaGreatDoor

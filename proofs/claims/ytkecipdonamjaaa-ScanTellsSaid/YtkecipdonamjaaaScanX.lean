/- The walk of scan.Next (for a dict of whole numbers). No condition. -/
import Derived.Test.YtkecipdonamjaaaScanN
import Derived.Deep.Cut
import Derived.Deep.CutBlock
import Derived.Deep.QuietTactic
import Derived.BigQuiet
namespace Go.Proofs.Ytkecipdonamjaaa
open Go.RowKit Di
def ScanPost (w : World) (R : Nat × List ByteArray) (e : Ending) (w' : World) : Prop := ∃ v, e = .returned (.tuple #[.int .u64 (R.1 : Int), v]) ∧ RowS w.heap.size w' v R.2 ∧ Below w.heap.size w w'
theorem u64_nat (n : Nat) (h : n < 18446744073709551616) : (UInt64.ofNat n).toNat = n := by rw [UInt64.toNat_ofNat']; omega
theorem wd_nat (n : Nat) (h : n < 18446744073709551616) : wd (UInt64.ofNat n) = (n : Int) := congrArg Nat.cast (u64_nat n h)
set_option maxRecDepth 100000 in
set_option maxHeartbeats 4000000 in
theorem next_any (w : World) (d : Nat) (M : DM) (c : UInt64) (count : Int) (h : DAt w d M) (hn : M.n ≤ 2199023255552) (hcl : -9223372036854775808 ≤ count) (hch : count ≤ 9223372036854775807) :
    Calls Try.prog 52 #[.pointer (some ⟨d, 0, none⟩), .int .u64 (wd c), .int .i64 count] w (ScanPost w (scanK M c.toNat count)) := by
  have H := Lib.hid h
  have hlo := h.lold
  have hly := h.lyoung
  obtain ⟨Res, hRes⟩ : ∃ R, scanK M c.toNat count = R := ⟨_, rfl⟩
  rw [hRes]
  have HRes := Lib.hid hRes
  clear hRes
  by_cases ho : M.old = []
  · have hr : Res = (0, []) := by rw [← HRes.out]; unfold scanK; rw [if_pos ho]
    subst hr
    have hsz := Di.sizes_any
    have HSZ := Lib.hid (fun (W : World) (h : DAt W d M) => Di.sizes_any W d M h)
    rw [ho] at HSZ
    have hd1 : DAt ((w.alloc (.cells #[.pointer (some ⟨d, 0, none⟩)] 29)).alloc (.cells #[.int .u64 (wd c)] 22)) d M := (h.fr (Fr.alloc (fun _ => False) _ _) (fun _ _ h => h)).fr (Fr.alloc (fun _ => False) _ _) (fun _ _ h => h)
    have HD1 := Lib.hid hd1
    have hb1 : Below w.heap.size w ((w.alloc (.cells #[.pointer (some ⟨d, 0, none⟩)] 29)).alloc (.cells #[.int .u64 (wd c)] 22)) := ((Below.refl _ _).alloc (Nat.le_refl _) _).alloc (by simp) _
    have HB1 := Lib.hid hb1
    clear hd1 hb1 h hsz ho
    go_enter Try.func52, Try.ntmps52
    go_wp2_with fail
    refine (HSZ.out _ HD1.out).mono ?_
    rintro e w1 ⟨rfl, m1, rfl⟩
    go_wp2_with fail
    go_ret2
    exact ⟨_, rfl, World.ownsRow_nil _ _ _ _, HB1.out.trans ((Fr.drewN (fun _ => False) _ m1).below HB1.out.size (fun _ h => h.elim))⟩
  obtain ⟨T, hT⟩ : ∃ T, scanT M (max count 1).toNat = T := ⟨_, rfl⟩
  have ht := tabs h.inv ho (max count 1).toNat
  rw [hT] at ht
  obtain ⟨g, hg⟩ : ∃ g, T.g = g := ⟨_, rfl⟩
  obtain ⟨r, hr⟩ : ∃ r, T.r = r := ⟨_, rfl⟩
  rw [hg, hr] at ht
  have hTG : ∀ q : Nat, T.G q = bucketK M (whichM M : Nat) (q : Int) := fun q => by rw [← hT]; rfl
  have hTS : ∀ c : Nat, T.S c = if smallM M = 0 then [] else bucketK M ((1 - whichM M : Nat) : Int) ((c % smallM M : Nat) : Int) := fun q => by rw [← hT]; rfl
  have hTc : T.cnt = (max count 1).toNat := by rw [← hT]; rfl
  have hres : T.nxt c.toNat [] = Res := by rw [← HRes.out, ← hT]; unfold scanK; rw [if_neg ho]
  have HT := Lib.hid ht
  have HTG := Lib.hid hTG
  have HTS := Lib.hid hTS
  have HTC := Lib.hid hTc
  have HRS := Lib.hid hres
  have HSZ := Lib.hid (fun (W : World) (h : DAt W d M) => Di.sizes_any W d M h)
  have hop : 0 < M.old.length := List.length_pos_iff.2 ho
  have hgr : greatM M ≤ 35184372088832 ∧ 0 < greatM M ∧ smallM M ≤ 35184372088832 := by
    unfold greatM smallM
    split <;> omega
  have hw01 := which_01 M
  have hd1 : DAt ((w.alloc (.cells #[.pointer (some ⟨d, 0, none⟩)] 29)).alloc (.cells #[.int .u64 (wd c)] 22)) d M := (h.fr (Fr.alloc (fun _ => False) _ _) (fun _ _ h => h)).fr (Fr.alloc (fun _ => False) _ _) (fun _ _ h => h)
  have HD1 := Lib.hid hd1
  clear ht hTG hTS hTc hres hd1 h hT ho
  go_enter Try.func52, Try.ntmps52
  go_wp2_with fail
  refine (HSZ.out _ HD1.out).mono ?_
  rintro e w1 ⟨rfl, m1, rfl⟩
  obtain ⟨A, hA⟩ : ∃ n, M.old.length = n := ⟨_, rfl⟩
  obtain ⟨Y, hY⟩ : ∃ n, M.young.length = n := ⟨_, rfl⟩
  have hsm : smallM M = (if Y < A then Y else A) ∧ greatM M = (if Y < A then A else Y) ∧ whichM M = (if Y < A then 0 else 1) := by unfold smallM greatM whichM; rw [hA, hY]; exact ⟨rfl, rfl, rfl⟩
  obtain ⟨s1, s2, s3⟩ := hsm
  have HS1 := Lib.hid s1
  have HS2 := Lib.hid s2
  have HS3 := Lib.hid s3
  obtain ⟨Sm, hSm⟩ : ∃ n, smallM M = n := ⟨_, rfl⟩
  obtain ⟨Gr, hGr⟩ : ∃ n, greatM M = n := ⟨_, rfl⟩
  obtain ⟨Wh, hWh⟩ : ∃ n, whichM M = n := ⟨_, rfl⟩
  rw [hSm] at HS1
  rw [hGr] at HS2
  rw [hWh] at HS3 hw01
  rw [hSm, hGr] at hgr
  rw [hA, hY]
  rw [hA] at hop hlo
  rw [hY] at hly
  have HSm := Lib.hid hSm
  have HGr := Lib.hid hGr
  have HWh := Lib.hid hWh
  have g0 : ((A : Int) == 0) = false := beq_eq_false_iff_ne.2 (by omega)
  obtain ⟨hg1, hg2, hg3⟩ := hgr
  obtain ⟨w2, hw2⟩ : ∃ w2, ((w.alloc (.cells #[.pointer (some ⟨d, 0, none⟩)] 29)).alloc (.cells #[.int .u64 (wd c)] 22)).drewN m1 = w2 := ⟨_, rfl⟩
  rw [hw2]
  have HW2 := Lib.hid hw2
  clear hA hY s1 s2 s3 hSm hGr hWh hw2
  go_upto_if 28 with (fail)
  go_cut [11, 12, 13] from 22 to 30 (fun t1 t2 t3 wc => wc = w2 ∧ t1 = .int .i64 (Sm : Int) ∧ t2 = .int .i64 (Gr : Int) ∧ t3 = .int .i64 (Wh : Int))
  case first =>
    by_cases hlt : Y < A
    · have e1 : Sm = Y := by rw [HS1.out, if_pos hlt]
      have e2 : Gr = A := by rw [HS2.out, if_pos hlt]
      have e3 : Wh = 0 := by rw [HS3.out, if_pos hlt]
      have E1 := Lib.hid e1
      have E2 := Lib.hid e2
      have E3 := Lib.hid e3
      have q1 : decide (Y < A) = true := by simpa using hlt
      clear e1 e2 e3
      go_wp2
      go_meet
      case rel => exact ⟨rfl, by rw [E1.out], by rw [E2.out], by rw [E3.out]; rfl⟩
    · have e1 : Sm = A := by rw [HS1.out, if_neg hlt]
      have e2 : Gr = Y := by rw [HS2.out, if_neg hlt]
      have e3 : Wh = 1 := by rw [HS3.out, if_neg hlt]
      have E1 := Lib.hid e1
      have E2 := Lib.hid e2
      have E3 := Lib.hid e3
      have q1 : decide (Y < A) = false := by simpa using hlt
      clear e1 e2 e3
      go_wp2
      go_meet
      case rel => exact ⟨rfl, by rw [E1.out], by rw [E2.out], by rw [E3.out]; rfl⟩
  case rest =>
  obtain ⟨rfl, rfl, rfl, rfl⟩ := hcut
  obtain ⟨w2, rfl⟩ : ∃ w2, w2 = wc := ⟨_, rfl⟩
  have hw2s : w2.heap.size = w.heap.size + 2 := by rw [← HW2.out]; show (World.alloc _ _).heap.size = _; simp
  have hsc : Sc w (w2.alloc (.cells #[.slice none 0 0] 47)) d M (w.heap.size + 2) w.heap.size (w.heap.size + 1) c (.slice none 0 0) [] := by
    have hf2 : Fr (fun _ => False) w w2 := by rw [← HW2.out]; exact ((Fr.alloc (fun _ => False) w _).thenAlloc _).thenDrewN m1
    have b0 : Bx w2 w.heap.size 29 (.pointer (some ⟨d, 0, none⟩)) := by
      rw [← HW2.out]
      show ((World.alloc _ _).heap)[_]? = _
      exact heap_alloc2_old w _ _
    have b1 : Bx w2 (w.heap.size + 1) 22 (.int .u64 (wd c)) := by
      rw [← HW2.out]
      show ((World.alloc _ _).heap)[_]? = _
      exact heap_alloc2_new w _ _
    have hf3 := Fr.alloc (fun _ => False) w2 (.cells #[.slice none 0 0] 47)
    refine ⟨?_, World.ownsRow_nil _ _ _ _, b0.fr hf3 (fun h => h), b1.fr hf3 (fun h => h), H.out, hf2.trans hf3 (fun _ h _ => h), by omega, by omega⟩
    rw [← hw2s]
    exact alloc_at _ _
  have HSC := Lib.hid hsc
  have HW2S := Lib.hid hw2s
  clear hsc HS1 HS2 HS3 HD1 HW2
  go_wp2_with fail
  have HW01 := Lib.hid hw01
  have hwl : (Wh : Int) ≤ 1 := by have := HW01.out; omega
  have hcnt : Hid (∀ n : Nat, (max count 1 ≤ (n : Int)) ↔ T.cnt ≤ n) := fun n => by rw [HTC.out]; omega
  have HG60 : Hid (Gr = 2 ^ g ∧ g ≤ 45) := by
    have h1 : Gr = 2 ^ g := by rw [← HGr.out]; exact HT.out.great
    refine ⟨h1, ?_⟩
    rw [h1] at hg1
    exact (Nat.pow_le_pow_iff_right (by decide : 1 < 2)).1 (show 2 ^ g ≤ 2 ^ 45 by omega)
  clear hw01
  go_loopg [33] (2 ^ g) (fun gh _t wr => ∃ (c : UInt64) (v : Value) (S : List ByteArray), Hid (Sc w wr d M (w.heap.size + 2) w.heap.size (w.heap.size + 1) c v S) ∧ Hid (T.nxt c.toNat S = Res) ∧ Hid (S.length ≤ wG M g (tr g c.toNat) + wS M (tr g c.toNat / 2 ^ r)) ∧ Hid (2 ^ g ≤ tr g c.toNat + gh ∧ gh ≤ 2 ^ g))
  case atStart =>
    refine ⟨c, .slice none 0 0, [], HSC, HRS, by show _ ≤ _; simp, ?_⟩
    have := tr_lt g c.toNat
    show _ ∧ _
    omega
  case round =>
    obtain ⟨c0, v0, S0, HS, HN, HL, HGH⟩ := hrel
    clear HSC
    have HL2 : Hid ((S0 ++ T.S c0.toNat).length ≤ wG M g (tr g c0.toNat) + wS M (tr g c0.toNat / 2 ^ r + 1)) := by
      show _ ≤ _
      rw [List.length_append, HTS.out]
      have h1 := HL.out
      by_cases hs : smallM M = 0
      · rw [if_pos hs]
        unfold wS at h1 ⊢
        rw [if_pos hs] at h1 ⊢
        simpa using h1
      · rw [if_neg hs]
        have := wS_step HT.out c0.toNat hs
        omega
    have hb0 : wG M g (tr g c0.toNat) + wS M (tr g c0.toNat / 2 ^ r + 1) ≤ M.n := by
      refine w_bound H.out.inv HT.out (Nat.le_of_lt (tr_lt _ _)) ?_
      have h1 := tr_lt g c0.toNat
      rw [show 2 ^ g = 2 ^ (g - r) * 2 ^ r by rw [← Nat.pow_add, Nat.sub_add_cancel HT.out.le]] at h1
      exact (Nat.div_lt_iff_lt_mul (Nat.two_pow_pos r)).2 h1
    have HB0 := Lib.hid hb0
    have hS0 : S0.length ≤ 4398046511104 := by have h1 := HL2.out; rw [List.length_append] at h1; omega
    clear hb0
    go_upto_if 33 with (fail)
    go_cut [33] from 32 to 38 (fun _t wc => ∃ v', Hid (Sc w wc d M (w.heap.size + 2) w.heap.size (w.heap.size + 1) c0 v' (S0 ++ T.S c0.toNat)))
    case first =>
      by_cases hs : Sm = 0
      · have hz : Hid (S0 ++ T.S c0.toNat = S0) := by show _ = _; rw [HTS.out, if_pos (HSm.out.trans hs), List.append_nil]
        have q1 : ¬ 0 < Sm := by omega
        clear hs
        go_wp2
        go_meet
        case rel => exact ⟨v0, by rw [hz.out]; exact HS⟩
      · have q1 : decide (0 < Sm) = true := by simp; omega
        have hz : Hid (S0 ++ T.S c0.toNat = S0 ++ bucketK M (1 - (Wh : Int)) ((c0.toNat % (Sm : Int).toNat : Nat) : Int)) := by
          show _ = _
          rw [HTS.out, if_neg (by rw [HSm.out]; exact hs), HSm.out, HWh.out, Int.toNat_natCast, show ((1 - Wh : Nat) : Int) = 1 - (Wh : Int) by omega]
        have hb := bk_any w wr d M _ _ _ c0 v0 S0 (1 - (Wh : Int)) Sm HS.out (by omega) (by omega) (by omega) hS0
        rw [← hz.out] at hb
        have HBK := Lib.hid hb
        have q2 : 0 < Sm := by omega
        clear hs hb q1
        go_wp2_with fail
        refine HBK.out.mono ?_
        rintro e w4 ⟨rfl, v4, hs4⟩
        have HS4 := Lib.hid hs4
        clear hs4
        go_wp2_with fail
        go_meet
        case rel => exact ⟨v4, HS4⟩
    case rest =>
    obtain ⟨v1, HS1⟩ := hcut
    have hw01 : (0 : Int) ≤ (Wh : Int) := by omega
    go_upto_block 2 with (fail)
    obtain ⟨p0, hp0⟩ : ∃ p, tr g c0.toNat = p := ⟨_, rfl⟩
    rw [hp0] at HL HL2 HB0 HGH
    have hp0l : p0 < 2 ^ g := by rw [← hp0]; exact tr_lt _ _
    obtain ⟨K0, hK0⟩ : ∃ K, S0 ++ T.S c0.toNat = K := ⟨_, rfl⟩
    rw [hK0] at HS1 HL2
    have hturn : Hid (S0 ++ T.turnK c0.toNat = K0 ++ blk T.G g p0 (en r p0)) := by
      show _ = _
      unfold TB.turnK
      rw [← List.append_assoc, hK0, hg, hr, hp0]
    have hturnC : Hid (T.turnC c0.toNat = if en r p0 = 2 ^ g then 0 else tr g (en r p0)) := by
      show _ = _
      unfold TB.turnC
      rw [hg, hr, hp0]
    have hnx : Hid (Res = if T.turnC c0.toNat = 0 ∨ T.cnt ≤ (S0 ++ T.turnK c0.toNat).length then (T.turnC c0.toNat, S0 ++ T.turnK c0.toNat) else T.nxt (T.turnC c0.toNat) (S0 ++ T.turnK c0.toNat)) := by
      show _ = _
      rw [← HN.out, T.nxt_eq (by rw [hg, hr]; exact HT.out.le)]
    have HP0 := Lib.hid hp0
    clear hK0 hp0 hS0
    go_cut [42] from 39 to 54 (fun _t wc => ∃ (c1 : UInt64) (v1 : Value), Hid (Sc w wc d M (w.heap.size + 2) w.heap.size (w.heap.size + 1) c1 v1 (S0 ++ T.turnK c0.toNat)) ∧ Hid (c1.toNat = T.turnC c0.toNat))
    case first =>
      go_wp2
      go_loopg [42] (2 ^ g) (fun gh _t wr => ∃ (c : UInt64) (v : Value) (q : Nat), Hid (Sc w wr d M (w.heap.size + 2) w.heap.size (w.heap.size + 1) c v (K0 ++ blk T.G g p0 q)) ∧ Hid (tr g c.toNat = q) ∧ Hid (p0 ≤ q) ∧ Hid (en r q = en r p0) ∧ Hid (2 ^ g ≤ q + gh))
      case atStart =>
        refine ⟨c0, v1, p0, ?_, HP0, Nat.le_refl p0, rfl, ?_⟩
        · rw [blk_nil, List.append_nil]; exact HS1
        · show _ ≤ _; omega
      case round =>
        obtain ⟨wo, rfl⟩ : ∃ wo, wo = wr := ⟨_, rfl⟩
        obtain ⟨c1, v2, q, HS2, HQ, HPQ, HEN, HGQ⟩ := hrel
        have hql : q < 2 ^ g := by rw [← HQ.out]; exact tr_lt _ _
        have hlen : (K0 ++ blk T.G g p0 q).length ≤ 4398046511104 := by
          have h1 := blk_len T.G g p0 q HPQ.out
          have h2 := HL2.out
          have h3 : (fun i => (T.G (tr g i)).length) = fun i => (bucketK M (whichM M : Nat) (tr g i : Nat)).length := funext fun i => by rw [HTG.out]
          rw [h3] at h1
          have h4 : wG M g q + wS M (p0 / 2 ^ r + 1) ≤ M.n := by
            refine w_bound H.out.inv HT.out (Nat.le_of_lt hql) ?_
            rw [show 2 ^ g = 2 ^ (g - r) * 2 ^ r by rw [← Nat.pow_add, Nat.sub_add_cancel HT.out.le]] at hp0l
            exact (Nat.div_lt_iff_lt_mul (Nat.two_pow_pos r)).2 hp0l
          unfold wG at h2 h4
          rw [List.length_append]
          omega
        have hb := bk_any w wo d M _ _ _ c1 v2 _ (Wh : Int) Gr HS2.out (by omega) (by omega) (by omega) hlen
        have hgq : (c1.toNat % (Gr : Int).toNat) = tr g q := by
          rw [Int.toNat_natCast, HG60.out.1, ← HQ.out, tr_tr]
        rw [hgq] at hb
        have hsn : (K0 ++ blk T.G g p0 q) ++ bucketK M (Wh : Int) ((tr g q : Nat) : Int) = K0 ++ blk T.G g p0 (q + 1) := by
          rw [blk_snoc _ _ _ _ HPQ.out, ← List.append_assoc, HTG.out, HWh.out]
        rw [hsn] at hb
        have HBK := Lib.hid hb
        clear hb hsn hgq hlen hql
        go_wp2_with fail
        refine HBK.out.mono ?_
        rintro e w4 ⟨rfl, v4, hs4⟩
        have HS4 := Lib.hid hs4
        have kc := hs4.cc.cell
        have kz := hs4.cc.free
        clear hs4
        have hlg : lg (Gr : Int) = g := by rw [HG60.out.1]; exact lg_pow g (by have := HG60.out.2; omega)
        have HAF := Lib.hid (after_any c1 (Gr : Int) w4 (by omega))
        rw [hlg] at HAF
        obtain ⟨a2, ha2⟩ : ∃ a, aft g c1.toNat = a := ⟨_, rfl⟩
        have ha2l : a2 < 18446744073709551616 := by
          have h1 := aft_lt g c1.toNat
          rw [ha2] at h1
          have h2 : 2 ^ g ≤ 2 ^ 45 := Nat.pow_le_pow_right (by decide) HG60.out.2
          omega
        have HA2 : Hid (a2 = if q + 1 = 2 ^ g then 0 else tr g (q + 1)) := by
          show _ = _
          rw [← ha2]; unfold aft; rw [HQ.out]
        rw [ha2] at HAF
        clear ha2 hlg
        go_wp2_with fail
        refine HAF.out.mono ?_
        rintro e w' ⟨rfl, rfl⟩
        have hs6 := HS4.out.setc (UInt64.ofNat a2) (a2 : Int) (wd_nat a2 ha2l).symm
        have HS6 := Lib.hid hs6
        have HU2 := Lib.hid (u64_nat a2 ha2l)
        clear hs6 ha2l
        go_upto_region 13 with (fail)
        obtain ⟨w6, hw6⟩ : ∃ w6, w4.setCell ⟨w.heap.size + 1, 0, none⟩ (.int .u64 (a2 : Int)) = w6 := ⟨_, rfl⟩
        rw [hw6] at HS6 ⊢
        clear hw6 kc kz
        go_cut [54] from 46 to 54 (fun t wc => wc = w6 ∧ t = .bool (decide ((q + 1) % 2 ^ r = 0)))
        case first =>
          have kc6 := HS6.out.cc.cell
          rw [show wd (UInt64.ofNat a2) = (a2 : Int) from congrArg Nat.cast HU2.out] at kc6
          by_cases hs : Sm = 0
          · have hb : decide ((q + 1) % 2 ^ r = 0) = true := by
              rcases HT.out.small with ⟨_, e⟩ | ⟨s, e, _⟩
              · rw [e]; simp [Nat.mod_one]
              · rw [HSm.out, hs] at e; have := Nat.two_pow_pos s; omega
            have HBB := Lib.hid hb
            have q1 : ((Sm : Int) == 0) = true := beq_iff_eq.2 (by omega)
            clear hb
            go_wp2
            go_meet
            case rel => exact ⟨rfl, by rw [HBB.out]⟩
          · have q1 : ((Sm : Int) == 0) = false := beq_eq_false_iff_ne.2 (by omega)
            have hd : (a2 / Sm = 0) ↔ (q + 1) % 2 ^ r = 0 := by
              rcases HT.out.small with ⟨e, _⟩ | ⟨s, e, hsg, er⟩
              · exact absurd (HSm.out.symm.trans e) hs
              · have e2 : Sm = 2 ^ s := HSm.out.symm.trans e
                rw [HA2.out, e2]
                by_cases hq1 : q + 1 = 2 ^ g
                · rw [if_pos hq1, hq1, Nat.zero_div]
                  refine ⟨fun _ => ?_, fun _ => rfl⟩
                  rw [er, show 2 ^ g = 2 ^ (g - s) * 2 ^ s by rw [← Nat.pow_add, Nat.sub_add_cancel hsg]]
                  exact Nat.mul_mod_right _ _
                · rw [if_neg hq1, hi_zero g s (q + 1) hsg, er]
            obtain ⟨bq, hbq⟩ : ∃ b, decide ((q + 1) % 2 ^ r = 0) = b := ⟨_, rfl⟩
            have q2 : (((a2 / Sm : Nat) : Int) == 0) = bq := by
              rw [← hbq, Bool.eq_iff_iff, beq_iff_eq, decide_eq_true_eq, ← hd]; omega
            have HBB := Lib.hid hbq
            have q3 : ¬ Sm = 0 := hs
            have hsu : IntKind.u64.wrap (Sm : Int) = (Sm : Int) := IntWalk.u64_in _ (by omega)
            have Q4 : Hid ((IntKind.u64.wrap ((a2 : Int) / (Sm : Int)) == 0) = bq) := by
              show _ = _
              have e1 : (a2 : Int) / (Sm : Int) = ((a2 / Sm : Nat) : Int) := rfl
              have e2 : a2 / Sm ≤ a2 := Nat.div_le_self _ _
              have e3 : a2 < 18446744073709551616 := by have h1 := (UInt64.ofNat a2).toNat_lt; rw [HU2.out] at h1; exact h1
              rw [e1]
              generalize a2 / Sm = z at *
              rw [IntWalk.u64_in _ (by omega)]
              exact q2
            clear hbq hd hs q2
            go_wp2
            go_meet
            case rel => exact ⟨rfl, by rw [HBB.out, Q4.out]⟩
        case rest =>
        obtain ⟨rfl, rfl⟩ := hcut
        by_cases hx : (q + 1) % 2 ^ r = 0
        · have hdx : decide ((q + 1) % 2 ^ r = 0) = true := decide_eq_true hx
          have heq : en r p0 = q + 1 := by rw [← HEN.out]; exact en_hit r q hx
          have HX1 : Hid (Sc w wc d M (w.heap.size + 2) w.heap.size (w.heap.size + 1) (UInt64.ofNat a2) v4 (S0 ++ T.turnK c0.toNat)) := by
            rw [hturn.out, heq]; exact HS6
          have HX2 : Hid ((UInt64.ofNat a2).toNat = T.turnC c0.toNat) := by
            show _ = _
            rw [HU2.out, hturnC.out, heq, HA2.out]
          rw [hdx]
          clear hx hdx heq
          go_wp2
          go_meet
          case rel => exact ⟨_, _, HX1, HX2⟩
        · have hdx : decide ((q + 1) % 2 ^ r = 0) = false := decide_eq_false hx
          have hq1 : ¬ q + 1 = 2 ^ g := by
            intro e
            refine hx ?_
            rw [e, show 2 ^ g = 2 ^ (g - r) * 2 ^ r by rw [← Nat.pow_add, Nat.sub_add_cancel HT.out.le]]
            exact Nat.mul_mod_left _ _
          have hql : q < 2 ^ g := by rw [← HQ.out]; exact tr_lt _ _
          have HX1 : Hid (tr g (UInt64.ofNat a2).toNat = q + 1) := by
            show _ = _
            rw [HU2.out, HA2.out, if_neg hq1, tr_tr, Nat.mod_eq_of_lt (by omega)]
          have HX2 : Hid (en r (q + 1) = en r p0) := by
            show _ = _
            rw [en_miss r q hx]; exact HEN.out
          rw [hdx]
          clear hx hdx
          go_wp2
          go_roundg (2 ^ g - (q + 1))
          case measure => have := HGQ.out; omega
          case rel =>
            refine ⟨_, _, q + 1, HS6, HX1, ?_, HX2, ?_⟩
            · show _ ≤ _; have := HPQ.out; omega
            · show _ ≤ _; omega
    case rest =>
    obtain ⟨c1, v2, HS5, HC5⟩ := hcut
    have hrow := HS5.out.row
    obtain ⟨va, vc, rfl⟩ := owns_slice hrow
    obtain ⟨K, hK⟩ : ∃ K, S0 ++ T.turnK c0.toNat = K := ⟨_, rfl⟩
    rw [hK] at HS5
    have hkn : Hid (Res = if c1.toNat = 0 ∨ T.cnt ≤ K.length then (c1.toNat, K) else T.nxt c1.toNat K) := by
      show _ = _
      rw [HC5.out, ← hK]; exact hnx.out
    obtain ⟨cn, hcn⟩ : ∃ n, c1.toNat = n := ⟨_, rfl⟩
    have hcl8 : cn < 18446744073709551616 := by rw [← hcn]; exact c1.toNat_lt
    have k1 := HS5.out.kk.cell
    have k2 := HS5.out.cc.cell
    rw [show wd c1 = (cn : Int) from congrArg Nat.cast hcn] at k2
    have hKw : K.length ≤ wG M g (en r p0) + wS M (en r p0 / 2 ^ r) := by
      have h1 := blk_len T.G g p0 (en r p0) (Nat.le_of_lt (en_gt r p0))
      have h2 := HL2.out
      have h3 : (fun i => (T.G (tr g i)).length) = fun i => (bucketK M (whichM M : Nat) (tr g i : Nat)).length := funext fun i => by rw [HTG.out]
      rw [h3] at h1
      rw [en_div, ← hK, hturn.out, List.length_append]
      unfold wG at h2 ⊢
      omega
    have hKl : K.length ≤ M.n := by
      refine Nat.le_trans hKw (w_bound H.out.inv HT.out (en_le g r p0 HT.out.le hp0l) ?_)
      rw [en_div]
      rw [show 2 ^ g = 2 ^ (g - r) * 2 ^ r by rw [← Nat.pow_add, Nat.sub_add_cancel HT.out.le]] at hp0l
      exact (Nat.div_lt_iff_lt_mul (Nat.two_pow_pos r)).2 hp0l
    have HKW := Lib.hid hKw
    have HCN := Lib.hid hcn
    rw [hcn] at hkn
    have hKi : (K.length : Int) ≤ 4398046511104 := by omega
    clear hrow hcn hK hKw
    have hfin0 : Hid (∀ w', Fr (fun _ => False) wc w' → RowS w.heap.size w' (.slice va K.length vc) K ∧ Below w.heap.size w w') := fun w' hf => by
      have h1 := HS5.out.quiet hf
      exact ⟨h1.row, h1.fr.below (Nat.le_refl _) (fun _ h => h.elim)⟩
    by_cases hz : cn = 0
    · subst hz
      have hres : Res = (0, K) := by rw [hkn.out, if_pos (.inl rfl)]
      have HRES := Lib.hid hres
      clear hres
      go_upto_region 15 with (fail)
      all_goals
        go_quiet (fail)
        go_wp2
        go_ret2
        rw [HRES.out]
        obtain ⟨f1, f2⟩ := hfin0.out _ (Fr.drewN (fun _ => False) wc nq)
        exact ⟨_, rfl, f1, f2⟩
    · have q1 : ((cn : Int) == 0) = false := beq_eq_false_iff_ne.2 (by omega)
      by_cases hm : count ≤ (K.length : Int) ∧ 1 ≤ K.length
      · have hres : Res = (cn, K) := by rw [hkn.out, if_pos (.inr ((hcnt.out _).1 (by omega)))]
        have HRES := Lib.hid hres
        obtain ⟨m1', m2'⟩ := hm
        have m3' : (1 : Int) ≤ (K.length : Int) := by omega
        have m4' : max count 1 ≤ (K.length : Int) := by omega
        clear hres
        go_upto_region 15 with (fail)
        all_goals
          go_quiet (fail)
          go_wp2
          all_goals
            go_ret2
            rw [HRES.out]
            refine ⟨_, rfl, ?_⟩
            exact hfin0.out _ (Fr.drewN (fun _ => False) wc _)
      · have hno : T.nxt c1.toNat K = Res := by rw [hkn.out, HCN.out, if_neg (fun e => e.elim hz (fun e => hm (by have := (hcnt.out _).2 e; omega)))]
        have HNO := Lib.hid hno
        have hpos : tr g c1.toNat = en r p0 ∧ en r p0 < 2 ^ g := by
          have h1 := T.turn_pos c0.toNat (by rw [hg, hr]; exact HT.out.le) (by rw [← HC5.out, HCN.out]; exact hz)
          rw [hg, hr, ← HC5.out, HP0.out] at h1
          exact h1
        have HPOS := Lib.hid hpos
        have hep := en_gt r p0
        have m4' : ¬ max count 1 ≤ (K.length : Int) := by omega
        have m5' : (K.length : Int) < max count 1 := by omega
        have m6' : decide (max count 1 ≤ (K.length : Int)) = false := decide_eq_false m4'
        clear hno hpos hm
        go_wp2
        all_goals
          go_roundg (2 ^ g - en r p0)
          case measure => have := HGH.out; have := HPOS.out; omega
          case rel =>
            refine ⟨c1, _, K, HS5, HNO, ?_, ?_⟩
            · show _ ≤ _; rw [HPOS.out.1]; exact HKW.out
            · show _ ∧ _; rw [HPOS.out.1]; have := HPOS.out; omega
end Go.Proofs.Ytkecipdonamjaaa

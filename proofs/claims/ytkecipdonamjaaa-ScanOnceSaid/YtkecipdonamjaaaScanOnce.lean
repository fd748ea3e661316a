/- ScanOnce: nothing changed: each key just once. No condition. -/
import Derived.Test.YtkecipdonamjaaaScanH
import Derived.Test.YtkecipdonamjaaaWrap
namespace Go.Proofs.Ytkecipdonamjaaa
open Go.ChangeShapes Go.WideShapes Go.ChangeAt Go.RowKit Di
open Go.ChangeMaps (open_string shut_string)
set_option maxRecDepth 100000 in
set_option maxHeartbeats 4000000 in
theorem scanOnce_walk (w : World) (x0 : UInt64) (v1 : Value) (l : List ChB) (hr : RdC w 2 v1 l.length (l.flatMap chb)) (_hby : l.length * 24 ≤ reachBytes) (count : Int) (hcl : -9223372036854775808 ≤ count) (hch : count ≤ 9223372036854775807) (x3 x4 : UInt64) :
    Calls Try.prog 17 #[.int .u64 (wd x0), v1, .int .i64 count, .int .u64 (wd x3), .int .u64 (wd x4)] w fun e w' => e = .returned (.bool true) ∧ Below w.heap.size w w' := by
  have hk : (⟨#[97, 108, 119, 97, 121, 115]⟩ : ByteArray).size ≤ maxLen := by decide
  have HFEW := Lib.hid (fun (W : World) (h : RdC W 2 v1 l.length (l.flatMap chb)) => few_any W v1 l h)
  have HR := Lib.hid hr
  obtain ⟨-, a1, c1, rfl, -⟩ := hr
  go_enter Try.func17, Try.ntmps17
  go_wp2_with fail
  refine (wakes6_any _).mono ?_
  rintro e w1 ⟨rfl, hb1⟩
  have HB1 := Lib.hid hb1; clear hb1
  go_wp2_with fail
  refine (new_like _ x0 _ rfl).mono ?_
  rintro e w2 ⟨d, M0, rfl, D0, L0, -, ho0, hy0, -, HB0, hb2⟩
  have HD0 : Hid (Dc 1048577 w w2 d M0 []) := dc_start HB1.out D0 L0 ho0 hy0 HB0 hb2
  clear D0 L0 ho0 hy0 HB0 hb2
  go_wp2_with fail
  refine (set_like _ d M0 [] ⟨#[97, 108, 119, 97, 121, 115]⟩ 1 hk HD0.out.dat HD0.out.like (by decide)).mono ?_
  rintro e w3 ⟨rfl, M1, T1, L1, _, sl1⟩
  have HD1 := Lib.hid (HD0.out.turn T1 L1 sl1 (by decide))
  have hl1 : (setL [] ⟨#[97, 108, 119, 97, 121, 115]⟩ 1).length ≤ 1 := by decide
  obtain ⟨P1, hP1⟩ : ∃ P, setL [] ⟨#[97, 108, 119, 97, 121, 115]⟩ 1 = P := ⟨_, rfl⟩
  rw [hP1] at HD1 hl1
  clear hP1 T1 L1 sl1 HD0
  go_wp2_with fail
  refine (HFEW.out w3 (HR.out.below HD1.out.bel)).mono ?_
  rintro e w' ⟨⟨v2, rfl, hr2⟩, rfl⟩
  have hr2 := hr2 w HR.out
  obtain ⟨l2, hl2⟩ : ∃ l2, l.take 1048576 = l2 := ⟨_, rfl⟩
  have hl2n : l2.length ≤ 1048576 := by rw [← hl2, List.length_take]; omega
  rw [hl2] at hr2
  have HR2 := Lib.hid hr2
  obtain ⟨-, a2, c2, rfl, -⟩ := hr2
  clear hl2 HFEW HR HB1
  go_wp2_with fail
  go_loopw [12] (fun i wr => ∃ (k : Nat) (M : DM) (L : Pl), i = .int .i64 k ∧ k ≤ l2.length ∧ L.length ≤ k + 1 ∧ Hid (Dc 1048577 w wr d M L)) (fun i _ => l2.length - (intOf i).toNat)
  case atStart => exact ⟨0, M1, P1, rfl, by omega, by omega, HD1⟩
  case round =>
    obtain ⟨k, M, L, rfl, hk, hLk, HD⟩ := hrel
    clear HD1
    by_cases hlt : k < l2.length
    · obtain ⟨g, off, rfl, c0, c1⟩ := ch_at (HR2.out.below HD.out.bel) k hlt
      obtain ⟨o, ho⟩ : ∃ o, l2[k].1 = o := ⟨_, rfl⟩
      have hko : o.key.size ≤ maxLen := ho ▸ l2[k].2
      rw [ho] at c0 c1
      clear ho
      go_wp2_with fail
      refine (change_any wr d M L o HD.out.like (by omega) hko HD.out.dat).mono ?_
      rintro e w4 ⟨rfl, M', T, hl', hsl⟩
      have HD4 := Lib.hid (HD.out.turn T hl' hsl (by omega))
      have hLk' : (changeL o L).length ≤ k + 1 + 1 := Nat.le_trans (changeL_len o L) (by omega)
      clear T hl' hsl HD
      go_wp2_with fail
      go_roundw
      case rel => exact ⟨k + 1, M', changeL o L, by go_num, by omega, by omega, HD4⟩
      case measure => simp [intOf]; omega
    · obtain rfl : k = l2.length := by omega
      have hold : M.old.length ≤ 4194304 := by have := HD.out.lens.1; omega
      have hyoung : M.young.length ≤ 4194304 := by have := HD.out.lens.2; omega
      have hMn : M.n ≤ 1048577 := by rw [HD.out.like.count]; omega
      clear HR2 hlt
      go_wp2_with fail
      refine (keys_any wr d M HD.out.dat (by omega) hold hyoung).mono ?_
      rintro e w5 ⟨v5, rfl, hr5, hb5⟩
      have HD5 := Lib.hid (HD.out.quiet (fr_bel hb5))
      obtain ⟨K0, hK0⟩ : ∃ K, (entries M).map E.key = K := ⟨_, rfl⟩
      have hnd : K0.Nodup := by rw [← hK0]; exact HD.out.dat.inv.keys
      have hlen : M.n = K0.length := by rw [← hK0, List.length_map]; exact HD.out.dat.inv.count
      have hL : L.length = K0.length := by rw [← hlen]; exact HD.out.like.count.symm
      rw [hK0] at hr5
      have HR5 := Lib.hid hr5
      have HND := Lib.hid hnd
      have HK0 := Lib.hid hK0
      obtain ⟨va5, vc5, rfl⟩ := owns_slice hr5
      clear hr5 hb5 HD hnd hK0
      go_wp2_with fail
      refine (rest_any w5 d M 0 count HD5.out.dat (by omega) hcl hch).mono ?_
      rintro e w6 ⟨v6, l6, rfl, hr6, hb6, hrest⟩
      have hperm := hrest.all rfl
      rw [HK0.out] at hperm
      have HP6 := Lib.hid hperm
      have hl6 : l6.length = K0.length := hperm.length_eq
      have HD6 := Lib.hid (HD5.out.quiet (fr_bel hb6))
      have HR56 := Lib.hid (owns_fr HR5.out (fr_bel hb6) (fun _ _ h => h))
      have HR6 := Lib.hid hr6
      obtain ⟨va6, vc6, rfl⟩ := owns_slice hr6
      clear hr6 hb6 hrest hperm HD5 HR5
      rw [hl6]
      have g0 : ((K0.length : Int) != (K0.length : Int)) = false := by simp
      go_wp2_with fail
      refine (len_like _ d M L K0.length HD6.out.dat HD6.out.like (by omega) (by rw [hL])).mono ?_
      rintro e w' ⟨rfl, rfl⟩
      have hmem : ∀ (k : Nat) (hk : k < K0.length), inL l6 K0[k] = true := fun k hk => inL_iff.2 (HP6.out.mem_iff.2 (List.getElem_mem hk))
      have HMEM := Lib.hid hmem
      have HA := Lib.hid (fun (W : World) (hW : Fr (fun _ => False) w6 W) => RdC.of_owns (owns_fr HR56.out hW (fun _ _ h => h)))
      have HB := Lib.hid (fun (W : World) (hW : Fr (fun _ => False) w6 W) => RdC.of_owns (owns_fr HR6.out hW (fun _ _ h => h)))
      rw [hl6] at HB
      clear hmem HR56 HR6 HP6
      go_wp2_with fail
      go_loopw [16] (fun i wr => ∃ (k m : Nat), i = .int .i64 k ∧ k ≤ K0.length ∧ Hid (wr = w6.drewN m)) (fun i _ => K0.length - (intOf i).toNat)
      case atStart => exact ⟨0, 0, rfl, by omega, (show w6 = w6.drewN 0 from rfl)⟩
      case round =>
        obtain ⟨k2, m, rfl, hk2, HWR⟩ := hrel
        obtain ⟨wo, rfl⟩ : ∃ wo, wo = wr := ⟨_, rfl⟩
        have hfw : Fr (fun _ => False) w6 wo := by rw [HWR.out]; exact Fr.drewN _ _ _
        have HFW := Lib.hid hfw
        clear hfw
        by_cases hlt2 : k2 < K0.length
        · have hrd := HA.out wo HFW.out
          obtain ⟨g1, o1, rfl, cx⟩ := texts_at hrd k2 hlt2
          obtain ⟨x, hx⟩ : ∃ x, K0[k2] = x := ⟨_, rfl⟩
          have hi1 := HMEM.out k2 hlt2
          have hi2 := not_before HND.out k2 hlt2
          rw [hx] at cx hi1 hi2
          have HX := Lib.hid hx
          have HAM1 : Hid (∀ n, Calls Try.prog 58 #[.slice va6 K0.length vc6, .string x] (wo.drewN n) fun e w' => e = .returned (.bool true) ∧ ∃ m, w' = wo.drewN m) := fun n => by
            have h1 := among_any (wo.drewN n) (.slice va6 K0.length vc6) l6 x (by rw [hl6]; exact HB.out _ (HFW.out.thenDrewN n))
            rw [hi1] at h1
            exact h1.mono fun e w' ⟨h2, h3⟩ => ⟨h2, n, h3.symm⟩
          have htl : (K0.take k2).length = k2 := by rw [List.length_take]; omega
          have HAM2 : Hid (∀ n, Calls Try.prog 58 #[.slice (some ⟨g1, o1, none⟩) k2 vc5, .string x] (wo.drewN n) fun e w' => e = .returned (.bool false) ∧ ∃ m, w' = wo.drewN m) := fun n => by
            have h0 := rd_take (HA.out _ (HFW.out.thenDrewN n)) k2 (by omega)
            rw [Nat.mul_one, ← List.map_take] at h0
            have h1 := among_any (wo.drewN n) (.slice (some ⟨g1, o1, none⟩) k2 vc5) (K0.take k2) x (by rw [htl]; exact h0)
            rw [hi2] at h1
            exact h1.mono fun e w' ⟨h2, h3⟩ => ⟨h2, n, h3.symm⟩
          have hcap : K0.length ≤ vc5 := by
            obtain ⟨_, a', c', e', h1, _⟩ := hrd
            cases e'
            exact h1
          have hb0 : (0 : Int) ≤ (k2 : Int) := by omega
          have hb1 : (k2 : Int) < (K0.length : Int) := by omega
          have hb2 : (k2 : Int) ≤ (vc5 : Int) := by omega
          clear hrd hi1 hi2 hx htl
          go_upto_region 19 with (fail)
          go_quiet ((first | (go_at_call 58; with_reducible exact HAM1.out _) | (go_at_call 58; with_reducible exact HAM2.out _)))
          go_wp2
          go_roundw
          case rel => exact ⟨k2 + 1, m + nq, by go_num, by omega, (show wo.drewN nq = _ by rw [HWR.out]; exact drewN_drewN _ _ _)⟩
          case measure => simp [intOf]; omega
        · obtain rfl : k2 = K0.length := by omega
          have hscan : ∃ lw, scanK M 0 ((K0.length : Int) + 1) = (0, lw) ∧ lw.length = K0.length := by
            have hinv := HD6.out.dat.inv
            by_cases ho : M.old = []
            · refine ⟨[], by unfold scanK; rw [if_pos ho], ?_⟩
              have he : entries M = [] := by
                by_cases he : entries M = []
                · exact he
                · exact absurd ho (old_ne hinv he)
              rw [← HK0.out, he]
              rfl
            · obtain ⟨lw, e1, e2⟩ := scan_whole hinv ho ((K0.length : Int) + 1) (by rw [← hinv.count, hlen]; omega)
              exact ⟨lw, e1, by rw [e2.length_eq, HK0.out]⟩
          obtain ⟨lw, hs1, hs2⟩ := hscan
          have HD7 := Lib.hid (HD6.out.quiet HFW.out)
          have hnx := next_any wo d M 0 ((K0.length : Int) + 1) HD7.out.dat (by omega) (by omega) (by omega)
          rw [show (0 : UInt64).toNat = 0 from rfl, hs1] at hnx
          have HNX := Lib.hid hnx
          clear hs1 hnx HA HB HMEM HD6 HK0 HND HWR HFW
          go_wp2_with fail
          refine HNX.out.mono ?_
          rintro e w8 ⟨v8, rfl, hr8, hb8⟩
          dsimp only at hr8
          have HD8 := Lib.hid (HD7.out.quiet (fr_bel hb8))
          obtain ⟨va8, vc8, rfl⟩ := owns_slice hr8
          rw [hs2]
          clear hr8 hb8 hs2 HD7 HNX
          go_wp2_with fail
          refine (Di.sizes_any w8 d M HD8.out.dat).mono ?_
          rintro e w9 ⟨rfl, m9, rfl⟩
          have HD9 := Lib.hid (HD8.out.quiet (Fr.drewN (fun _ => False) w8 m9))
          obtain ⟨A, hA⟩ : ∃ n, M.old.length = n := ⟨_, rfl⟩
          obtain ⟨Y, hY⟩ : ∃ n, M.young.length = n := ⟨_, rfl⟩
          rw [hA] at hold ⊢
          rw [hY] at hyoung ⊢
          obtain ⟨T, hT⟩ : ∃ n : Nat, max (max A Y) 1 = n := ⟨_, rfl⟩
          have hT1 : 1 ≤ T := by omega
          have hT2 : T ≤ 4194304 := by omega
          have hT3 : max (max (A : Int) (Y : Int)) 1 = (T : Int) := by omega
          have HA := Lib.hid hA
          have HY := Lib.hid hY
          have HT := Lib.hid hT
          have hmx : ∀ (W : World) (ts : Array TypeId) (t : TypeId), (Builtin.max_ ts t #[.int .i64 (A : Int), .int .i64 (Y : Int), .int .i64 1]).run Try.prog W = .ok (.int .i64 (T : Int)) W := fun W ts t => by rw [max3, hT3]
          clear hA hY hT HD8 hT3
          go_wp2_with fail
          have hnx := next_any (w8.drewN m9) d M x3 count HD9.out.dat (by omega) hcl hch
          obtain ⟨R, hR⟩ : ∃ R, scanK M x3.toNat count = R := ⟨_, rfl⟩
          rw [hR] at hnx
          have HRR := Lib.hid hR
          have HNX := Lib.hid hnx
          clear hnx hR hmx
          refine HNX.out.mono ?_
          rintro e w10 ⟨v10, rfl, hr10, hb10⟩
          obtain ⟨R1, R2⟩ := R
          dsimp only at hr10 ⊢
          have HD10 := Lib.hid (HD9.out.quiet (fr_bel hb10))
          have HR10 := Lib.hid hr10
          obtain ⟨va10, vc10, rfl⟩ := owns_slice hr10
          clear hr10 hb10 HD9 HNX
          have hu1 : IntKind.u64.wrap (T : Int) = (T : Int) := IntWalk.u64_in _ (by omega)
          have hTz : ((T : Int) == 0) = false := beq_eq_false_iff_ne.2 (by omega)
          have hT0 : ¬ T = 0 := by omega
          have hTi : ¬ (T : Int) = 0 := by omega
          have hm : (wd x3).tmod (T : Int) = ((x3.toNat % T : Nat) : Int) := by
            show (((x3.toNat : Nat) : Int)).tmod (T : Int) = _
            rw [← Int.ofNat_tmod]
          have hfold : ∃ c : UInt64, IntKind.u64.wrap ((x3.toNat : Int) % (T : Int) + IntKind.u64.wrap (IntKind.u64.wrap ((wd x4).tdiv (T : Int)) * (T : Int))) = wd c ∧ scanK M c.toNat count = (R1, R2) := by
            have hinv := HD10.out.dat.inv
            obtain ⟨g, hg1, hg2⟩ := most_pow hinv HD10.out.dat.lold HD10.out.dat.lyoung
            have hTT : max (max M.old.length M.young.length) 1 = T := by rw [HA.out, HY.out]; exact HT.out
            rw [hTT] at hg1
            obtain ⟨c, e1, e2⟩ := fold_cursor x3 x4 T g hg1 hg2
            exact ⟨c, e1, by rw [scan_fold hinv c.toNat x3.toNat count (by rw [hTT]; exact e2)]; exact HRR.out⟩
          obtain ⟨cf, hcf1, hcf2⟩ := hfold
          have HDW := Lib.hid (HD10.out.quiet (Fr.drew (fun _ => False) w10))
          have hnx2 := next_any w10.drew d M cf count HDW.out.dat (by omega) hcl hch
          rw [hcf2, ← hcf1] at hnx2
          have HNX2 := Lib.hid hnx2
          clear hnx2 hcf1 hcf2 HRR HA HY HT
          go_upto_region 27 with (fail)
          go_cut [25, 26] from 131 to 144 (fun t25 t26 wc => ∃ va vc, t25 = .int .u64 (R1 : Int) ∧ t26 = .slice va R2.length vc ∧ Hid (RowS w10.heap.size wc (.slice va R2.length vc) R2) ∧ Hid (Below w10.heap.size w10 wc))
          case first =>
            go_region_law (first
              | (go_simp; go_at_call 52; ((with_reducible refine HNX2.out.mono ?_); rintro e w11 ⟨v11, rfl, hr11, hb11⟩; dsimp only at hr11; have HR11 := Lib.hid hr11; have HB11 := Lib.hid hb11; obtain ⟨va11, vc11, rfl⟩ := owns_slice hr11; clear hr11 hb11; dsimp only)))
            all_goals
              go_wp2
              go_meet
              case rel => exact ⟨va11, vc11, rfl, rfl, HR11.out, ((Below.refl w10.heap.size w10).drew).trans HB11.out⟩
          case rest =>
          obtain ⟨va, vc, rfl, rfl, HRC, HBC⟩ := hcut
          have hsame := same6_any wc _ _ R2 R2 (RdC.of_owns (owns_fr HR10.out (fr_bel HBC.out) (fun _ _ h => h))) (RdC.of_owns HRC.out)
          rw [decide_eq_true (rfl : R2 = R2)] at hsame
          have HSM := Lib.hid hsame
          have HBL := Lib.hid (HD10.out.bel.trans (HBC.out.mono HD10.out.bel.size))
          have g5 : ((R1 : Int) == (R1 : Int)) = true := beq_self_eq_true _
          clear hsame HDW HNX2
          go_wp2_with fail
          refine HSM.out.mono ?_
          rintro e w12 ⟨rfl, m12, rfl⟩
          go_wp2
          go_ret
          exact ⟨by simp, HBL.out.trans ((Fr.drewN (fun _ => False) wc m12).below HBL.out.size (fun _ h => h.elim))⟩
set_option maxRecDepth 100000 in
theorem scanOnce_lifted (os : Os) (started : os.Started) (H : Type) (enc : TypeId × Value → H) :
    ReturnsInHanded {} Try.checked os 17 .any (Rows.scanOnceSpec.pre6 enc Try.prog Try.f17 Rows.scanOnceRow.domain false) (Rows.scanOnceSpec.post enc Try.prog Try.f17 false true false false) := by
  refine returnsInHanded_of_change_sized (C := Try.checked) own started (by kernel_rfl) Try.func17
    (ChangeSpec.witness6 (enc := enc) (C := Try.checked) false ⟨#[], #[.int .u64 0, .slice none 0 0, .int .i64 0, .int .u64 0, .int .u64 0], []⟩ 8 (by kernel_rfl) (by kernel_rfl) (by kernel_rfl) (by kernel_rfl)) ?_
  intro W base args ds gs before hval0 hW hcnd hsz0 _
  have hval : ∀ (j : Nat) t v, Try.f17.params[j]? = some t → args[j]? = some v → Value.okWide Try.prog W .any base t v := hval0
  have hW' := hW
  obtain ⟨p, q, hA0, hV, rfl, hfz, hnd⟩ := hW
  have hA : DataW.TrodAll enc Try.prog W 0 (fun _ => true) true Try.f17.params.toList args.toList ds p := hA0
  rw [Try.params17] at hA hval
  obtain ⟨v0, vs0, d0, ds0, p0, q0, hargs, rfl, rfl, h0, r0⟩ := trodAll_cons hA
  obtain ⟨v1, vs1, d1, ds1, p1, q1, rfl, rfl, rfl, h1, r1⟩ := trodAll_cons r0
  obtain ⟨v2, vs2, d2, ds2, p2, q2, rfl, rfl, rfl, h2, r2⟩ := trodAll_cons r1
  obtain ⟨v3, vs3, d3, ds3, p3, q3, rfl, rfl, rfl, h3, r3⟩ := trodAll_cons r2
  obtain ⟨v4, vs4, d4, ds4, p4, q4, rfl, rfl, rfl, h4, r4⟩ := trodAll_cons r3
  obtain ⟨rfl, rfl, rfl⟩ := trodAll_nil r4
  obtain rfl : args = #[v0, v1, v2, v3, v4] := by cases args; simp_all
  obtain ⟨rfl, rfl⟩ := trodVars_none hV
  have hsz : (DataW.weightsEach Try.prog [22, 79, 3, 22, 22] [d0, d1, d2, d3, d4]).all (fun x => decide (x ≤ reachBytes)) = true := by
    have h := hsz0
    simp only [List.append_nil] at h
    have e : (Try.f17.params.toList ++ DataSpec.varTypes Try.checked.prog Rows.scanOnceSpec.plain) = [22, 79, 3, 22, 22] := by kernel_rfl
    rw [e] at h; exact h
  clear hsz0
  obtain ⟨hw0, hsz0⟩ := weights_cons hsz
  obtain ⟨x0, rfl⟩ := open_word Try.underlying22 (hval 0 22 v0 rfl rfl) h0
  obtain ⟨hw1, hsz1⟩ := weights_cons hsz0
  obtain ⟨l1, hr1, hb1⟩ := open_list chb chb_len Try.underlying79 (by kernel_rfl) ch_read (hval 1 79 v1 rfl rfl) h1
  have hby1 : l1.length * 24 ≤ reachBytes := by
    have e : Try.prog.bytesOf 84 = 24 := by kernel_rfl
    rw [← e]; exact hb1 _ hw1
  obtain ⟨hw2, hsz2⟩ := weights_cons hsz1
  obtain ⟨x2, rfl, lo2, hi2⟩ := open_i64 Try.underlying3 (hval 2 3 v2 rfl rfl) h2
  obtain ⟨hw3, hsz3⟩ := weights_cons hsz2
  obtain ⟨x3, rfl⟩ := open_word Try.underlying22 (hval 3 22 v3 rfl rfl) h3
  obtain ⟨hw4, hsz4⟩ := weights_cons hsz3
  obtain ⟨x4, rfl⟩ := open_word Try.underlying22 (hval 4 22 v4 rfl rfl) h4
  clear hA0 hval0
  refine (scanOnce_walk W x0 v1 l1 hr1 hby1 x2 lo2 hi2 x3 x4).mono fun e W' ⟨he, bel⟩ => ?_
  subst he
  exact ⟨_, rfl, law_post laidOut Try.underlying4 (by kernel_rfl) rfl (by kernel_rfl) hW' rfl bel⟩

theorem scanOnce_holds : Rows.ScanOnceSaid :=
  OpenClaim.holds_of_wide 17 Try.f17 rfl rfl rfl rfl rfl rfl rfl ⟨rfl, rfl, rfl, rfl, rfl⟩ rfl rfl rfl rfl rfl (by kernel_rfl) Try.func17 (by kernel_rfl)
    (of_decide_eq_true (by kernel_rfl)) (by unfold Func.isWrapper; rw [if_neg (of_decide_eq_false (by kernel_rfl))]; exact ⟨rfl, rfl⟩)
    (fun os started H enc _ => scanOnce_lifted os started H enc)
end Go.Proofs.Ytkecipdonamjaaa

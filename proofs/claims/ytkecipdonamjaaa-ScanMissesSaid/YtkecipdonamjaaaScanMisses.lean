/- ScanMisses: changes between the calls: no key that stayed is missed. No condition. -/
import Derived.Test.YtkecipdonamjaaaScanI
import Derived.Test.YtkecipdonamjaaaWrap
namespace Go.Proofs.Ytkecipdonamjaaa
open Go.ChangeShapes Go.WideShapes Go.ChangeAt Go.RowKit Di
open Go.ChangeMaps (open_string shut_string)
structure Mis (w0 w : World) (d : Nat) (M : DM) (L : Pl) (va : Value) (all : List ByteArray) (vt : Value) (told : List ByteArray) (c : Nat) : Prop where
  dc : Dc 2097153 w0 w d M L
  ra : RowS w0.heap.size w va all
  rt : RowS w0.heap.size w vt told
  dis : ∀ g, va.ownBlock = some g → ¬ vt.ownBlock = some g
  sub : ∀ x ∈ all, x ∈ L.map (·.1)
  tld : Tld M.seed c told all
theorem Mis.quiet {w0 w w' : World} {d c : Nat} {M : DM} {L : Pl} {va vt : Value} {all told : List ByteArray} (h : Mis w0 w d M L va all vt told c) (hf : Fr (fun _ => False) w w') : Mis w0 w' d M L va all vt told c :=
  ⟨h.dc.quiet hf, owns_fr h.ra hf (fun _ _ h => h), owns_fr h.rt hf (fun _ _ h => h), h.dis, h.sub, h.tld⟩
theorem Mis.app {w0 w w' : World} {d c c' : Nat} {M : DM} {L : Pl} {va vt v' : Value} {all told told' : List ByteArray} (h : Mis w0 w d M L va all vt told c) (hg : w.grownBy w' vt.ownBlock) (hr : RowS w0.heap.size w' v' told')
    (ha : ∀ g, v'.ownBlock = some g → vt.ownBlock = some g ∨ w.heap.size ≤ g) (ht : Tld M.seed c' told' all) : Mis w0 w' d M L va all v' told' c' :=
  ⟨h.dc.grown h.rt (Nat.le_refl _) hg, owns_fr h.ra (Fr.of_grownBy hg) (fun g h1 h2 => h.dis g h1 h2), hr, fun g h1 h2 => (ha g h2).elim (h.dis g h1) (fun h3 => by have := (h.ra.lt g h1).2; omega), h.sub, ht⟩
theorem Dc.mono {K K' : Nat} {w0 w : World} {d : Nat} {M : DM} {L : Pl} (h : Dc K w0 w d M L) (hk : K ≤ K') : Dc K' w0 w d M L := ⟨h.dat, h.like, h.base, h.bel, h.lens.mono hk⟩
theorem all_keys {M : DM} {L : Pl} (h : Like M L) : ∀ x ∈ (entries M).map E.key, x ∈ L.map (·.1) := by
  intro x hx
  obtain ⟨e, he, rfl⟩ := List.mem_map.1 hx
  obtain ⟨v, hv⟩ := like_mem h he
  exact List.mem_map.2 ⟨_, hv, rfl⟩
set_option maxRecDepth 100000 in
set_option maxHeartbeats 4000000 in
theorem scanMisses_walk (w : World) (x0 : UInt64) (v1 : Value) (l : List ChB) (hr : RdC w 2 v1 l.length (l.flatMap chb)) (_hby : l.length * 24 ≤ reachBytes) (v2 : Value) (l3 : List StB) (hr3 : RdC w 3 v2 l3.length (l3.flatMap stb)) (_hby2 : l3.length * 32 ≤ reachBytes) :
    Calls Try.prog 16 #[.int .u64 (wd x0), v1, v2] w fun e w' => e = .returned (.bool true) ∧ Below w.heap.size w w' := by
  have hk : (⟨#[97, 108, 119, 97, 121, 115]⟩ : ByteArray).size ≤ maxLen := by decide
  have HFEW := Lib.hid (fun (W : World) (h : RdC W 2 v1 l.length (l.flatMap chb)) => few_any W v1 l h)
  have HR := Lib.hid hr
  obtain ⟨-, a1, c1, rfl, -⟩ := hr
  have HR3 := Lib.hid hr3
  obtain ⟨-, a3, c3, rfl, -⟩ := hr3
  go_enter Try.func16, Try.ntmps16
  go_wp2_with fail
  refine (wakes6_any _).mono ?_
  rintro e w1 ⟨rfl, hb1⟩
  have HB1 := Lib.hid hb1; clear hb1
  go_wp2_with fail
  refine (new_like _ x0 _ rfl).mono ?_
  rintro e w2 ⟨d, M0, rfl, D0, L0, -, ho0, hy0, -, HB0, hb2⟩
  have HD0 : Hid (Dc 1048577 w w2 d M0 []) := dc_start HB1.out D0 L0 ho0 hy0 HB0 hb2
  clear D0 L0 ho0 hy0 HB0 hb2
  go_wp2_with fail
  refine (set_like _ d M0 [] ⟨#[97, 108, 119, 97, 121, 115]⟩ 1 hk HD0.out.dat HD0.out.like (by decide)).mono ?_
  rintro e w3 ⟨rfl, M1, T1, L1, _, sl1⟩
  have HD1 := Lib.hid (HD0.out.turn T1 L1 sl1 (by decide))
  have hl1 : (setL [] ⟨#[97, 108, 119, 97, 121, 115]⟩ 1).length ≤ 1 := by decide
  obtain ⟨P1, hP1⟩ : ∃ P, setL [] ⟨#[97, 108, 119, 97, 121, 115]⟩ 1 = P := ⟨_, rfl⟩
  rw [hP1] at HD1 hl1
  clear hP1 T1 L1 sl1 HD0
  go_wp2_with fail
  refine (HFEW.out w3 (HR.out.below HD1.out.bel)).mono ?_
  rintro e w' ⟨⟨vf, rfl, hr2⟩, rfl⟩
  have hr2 := hr2 w HR.out
  obtain ⟨l2, hl2⟩ : ∃ l2, l.take 1048576 = l2 := ⟨_, rfl⟩
  have hl2n : l2.length ≤ 1048576 := by rw [← hl2, List.length_take]; omega
  rw [hl2] at hr2
  have HR2 := Lib.hid hr2
  obtain ⟨-, a2, c2, rfl, -⟩ := hr2
  clear hl2 HFEW HR HB1
  go_wp2_with fail
  go_loopw [8] (fun i wr => ∃ (k : Nat) (M : DM) (L : Pl), i = .int .i64 k ∧ k ≤ l2.length ∧ L.length ≤ k + 1 ∧ Hid (Dc 1048577 w wr d M L)) (fun i _ => l2.length - (intOf i).toNat)
  case atStart => exact ⟨0, M1, P1, rfl, by omega, by omega, HD1⟩
  case round =>
    obtain ⟨k, M, L, rfl, hk, hLk, HD⟩ := hrel
    clear HD1
    by_cases hlt : k < l2.length
    · obtain ⟨g, off, rfl, c0, c1⟩ := ch_at (HR2.out.below HD.out.bel) k hlt
      obtain ⟨o, ho⟩ : ∃ o, l2[k].1 = o := ⟨_, rfl⟩
      have hko : o.key.size ≤ maxLen := ho ▸ l2[k].2
      rw [ho] at c0 c1
      clear ho
      go_wp2_with fail
      refine (change_any wr d M L o HD.out.like (by omega) hko HD.out.dat).mono ?_
      rintro e w4 ⟨rfl, M', T, hl', hsl⟩
      have HD4 := Lib.hid (HD.out.turn T hl' hsl (by omega))
      have hLk' : (changeL o L).length ≤ k + 1 + 1 := Nat.le_trans (changeL_len o L) (by omega)
      clear T hl' hsl HD
      go_wp2_with fail
      go_roundw
      case rel => exact ⟨k + 1, M', changeL o L, by go_num, by omega, by omega, HD4⟩
      case measure => simp [intOf]; omega
    · obtain rfl : k = l2.length := by omega
      have hold : M.old.length ≤ 4194304 := by have := HD.out.lens.1; omega
      have hyoung : M.young.length ≤ 4194304 := by have := HD.out.lens.2; omega
      have hMn : M.n ≤ 1048577 := by rw [HD.out.like.count]; omega
      clear HR2 hlt
      go_wp2_with fail
      refine (keys_any wr d M HD.out.dat (by omega) hold hyoung).mono ?_
      rintro e w5 ⟨v5, rfl, hr5, hb5⟩
      have HD5 := Lib.hid (HD.out.quiet (fr_bel hb5))
      have hsub := all_keys HD.out.like
      obtain ⟨K0, hK0⟩ : ∃ K, (entries M).map E.key = K := ⟨_, rfl⟩
      have hlen : M.n = K0.length := by rw [← hK0, List.length_map]; exact HD.out.dat.inv.count
      have hL : L.length = K0.length := by rw [← hlen]; exact HD.out.like.count.symm
      rw [hK0] at hr5 hsub
      have HR5 := Lib.hid (rowS_mono hr5 HD.out.bel.size)
      have HSUB := Lib.hid hsub
      obtain ⟨va5, vc5, rfl⟩ := owns_slice hr5
      clear hr5 hb5 HD hK0 hsub
      have g0 : ((K0.length : Int) != (K0.length : Int)) = false := by simp
      go_wp2_with fail
      refine (len_like _ d M L K0.length HD5.out.dat HD5.out.like (by omega) (by rw [hL])).mono ?_
      rintro e w' ⟨rfl, rfl⟩
      go_wp2_with fail
      have hnx := next_any w5 d M 0 1 HD5.out.dat (by omega) (by decide) (by decide)
      have htl := Tld.first HD5.out.like HD5.out.dat.lold HD5.out.dat.lyoung HSUB.out 1
      have hkl := scanK_len HD5.out.dat.inv HD5.out.dat.lold HD5.out.dat.lyoung 0 1
      have hcu := scan_cur HD5.out.dat.inv HD5.out.dat.lold HD5.out.dat.lyoung 0 1
      rw [show (0 : UInt64).toNat = 0 from rfl] at hnx
      obtain ⟨R, hR⟩ : ∃ R, scanK M 0 1 = R := ⟨_, rfl⟩
      rw [hR] at hnx htl hkl hcu
      obtain ⟨R1, R2⟩ := R
      dsimp only at hkl hcu htl
      have HNX := Lib.hid hnx
      have HTL := Lib.hid htl
      clear hnx htl hR
      refine HNX.out.mono ?_
      rintro e w6 ⟨v6, rfl, hr6, hb6⟩
      dsimp only at hr6 ⊢
      have HM6 : Hid (Mis w w6 d M L (.slice va5 K0.length vc5) K0 v6 R2 (UInt64.ofNat R1).toNat) := by
        refine ⟨(HD5.out.quiet (fr_bel hb6)).mono (by omega), owns_fr HR5.out (fr_bel hb6) (fun _ _ h => h), rowS_mono hr6 HD5.out.bel.size, fun g h1 h2 => ?_, HSUB.out, ?_⟩
        · have h3 := (hr6.lt g h2).1
          have h4 := (HR5.out.lt g h1).2
          omega
        · rw [u64_nat _ hcu]; exact HTL.out
      have hw1 := wd_nat R1 hcu
      have HW1 := Lib.hid hw1
      have hR2 : R2.length ≤ 6291459 := by omega
      clear hr6 hb6 HD5 HR5 HSUB HNX HTL hw1 hcu hold hyoung
      obtain ⟨i0, hi, hz0, hz1, hz2⟩ := info_parts info_str
      have HI := Lib.hid hi
      have HZ0 := Lib.hid hz0
      have HZ1 := Lib.hid hz1
      have HZ2 := Lib.hid hz2
      clear hi hz0 hz1 hz2
      go_wp2_with fail
      go_loopw [9, 10, 11, 12] (fun va cv vt i wr => ∃ (k : Nat) (M : DM) (L : Pl) (c : UInt64) (all told : List ByteArray), i = .int .i64 k ∧ cv = .int .u64 (wd c) ∧ k ≤ l3.length ∧ k ≤ 1048576 ∧ L.length ≤ 1048577 + k ∧ all.length ≤ 1048577 ∧ told.length ≤ (k + 1) * 6291459 ∧ Hid (Mis w wr d M L va all vt told c.toNat)) (fun _ _ _ i _ => l3.length - (intOf i).toNat)
      case atStart => exact ⟨0, M, L, _, K0, R2, rfl, by rw [HW1.out], by omega, by omega, by omega, by omega, by omega, HM6⟩
      case round =>
        obtain ⟨k, M, L, c, all, told, rfl, rfl, hk, hk2, hLk, hal, htd, HM⟩ := hrel
        obtain ⟨wo, rfl⟩ : ∃ wo, wo = wr := ⟨_, rfl⟩
        clear HM6
        obtain ⟨va, rfl⟩ : ∃ v, v = u9 := ⟨_, rfl⟩
        obtain ⟨vt, rfl⟩ : ∃ v, v = u11 := ⟨_, rfl⟩
        obtain ⟨cn, hcn⟩ : ∃ n, c.toNat = n := ⟨_, rfl⟩
        have hwc : wd c = (cn : Int) := congrArg Nat.cast hcn
        rw [hcn] at HM
        rw [hwc]
        have HCN := Lib.hid hcn
        have HWC := Lib.hid hwc
        clear hcn hwc
        go_upto_region 17 with (fail)
        go_cut [63] from 52 to 63 (fun t wc => wc = wo ∧ t = .bool (decide (k < l3.length ∧ k < 1048576 ∧ cn ≠ 0)))
        case first =>
          by_cases h1 : k < l3.length
          · by_cases h2 : k < 1048576
            · have q2 : (k : Int) < 1048576 := by omega
              by_cases h3 : cn = 0
              · have hd : decide (k < l3.length ∧ k < 1048576 ∧ cn ≠ 0) = false := decide_eq_false (fun h => h.2.2 h3)
                have HD := Lib.hid hd
                subst h3
                clear hd
                go_wp2
                go_meet
                case rel => exact ⟨rfl, by rw [HD.out]⟩
              · have hd : decide (k < l3.length ∧ k < 1048576 ∧ cn ≠ 0) = true := decide_eq_true ⟨h1, h2, h3⟩
                have HD := Lib.hid hd
                have q3 : ((cn : Int) != 0) = true := by rw [bne_iff_ne]; omega
                clear hd
                go_wp2
                go_meet
                case rel => exact ⟨rfl, by rw [HD.out]⟩
            · have hd : decide (k < l3.length ∧ k < 1048576 ∧ cn ≠ 0) = false := decide_eq_false (fun h => h2 h.2.1)
              have HD := Lib.hid hd
              have q2 : ¬ (k : Int) < 1048576 := by omega
              clear hd
              go_wp2
              go_meet
              case rel => exact ⟨rfl, by rw [HD.out]⟩
          · have hd : decide (k < l3.length ∧ k < 1048576 ∧ cn ≠ 0) = false := decide_eq_false (fun h => h1 h.1)
            have HD := Lib.hid hd
            clear hd
            go_wp2
            go_meet
            case rel => exact ⟨rfl, by rw [HD.out]⟩
        case rest =>
        obtain ⟨rfl, rfl⟩ := hcut
        by_cases hgo : k < l3.length ∧ k < 1048576 ∧ cn ≠ 0
        · rw [decide_eq_true hgo]
          obtain ⟨h1, h2, h3⟩ := hgo
          have cells := fun (W : World) (hb : Below w.heap.size w W) => st_at (HR3.out.below hb) k h1
          have CELLS := Lib.hid cells
          obtain ⟨g3, off3, ha3, c0, c1, c2⟩ := cells wc HM.out.dc.bel
          subst ha3
          obtain ⟨o, ho⟩ : ∃ o, l3[k].1 = o := ⟨_, rfl⟩
          have hko : o.ch.key.size ≤ maxLen ∧ InI o.count := ho ▸ l3[k].2
          rw [ho] at c0 c1 c2
          have HO := Lib.hid ho
          clear cells ho
          go_wp2_with fail
          refine (change_any wc d M L o.ch HM.out.dc.like (by omega) hko.1 HM.out.dc.dat).mono ?_
          rintro e w4 ⟨rfl, M', T, hl', hsl⟩
          have HDC4 := Lib.hid (HM.out.dc.turn T hl' hsl (by omega))
          have HRA4 := Lib.hid (owns_fr HM.out.ra T.fr (fun g hg hb => row_apart HM.out.dc.dat HM.out.ra (by decide) g hg hb))
          have HRT4 := Lib.hid (owns_fr HM.out.rt T.fr (fun g hg hb => row_apart HM.out.dc.dat HM.out.rt (by decide) g hg hb))
          have HSD := Lib.hid hsl.1
          have hlc := changeL_len o.ch L
          have hls := staysL_len o.ch all
          obtain ⟨g4, off4, ha4, c0, c1, c2⟩ := CELLS.out w4 HDC4.out.bel
          cases ha4
          rw [HO.out] at c0 c1 c2
          clear T hl' hsl
          go_wp2_with fail
          refine (stays_any w4 va all o.ch (RdC.of_owns HRA4.out) (by omega)).mono ?_
          rintro e w5 ⟨v5, rfl, hr5, hb5⟩
          have HM5 : Hid (Mis w w5 d M' (changeL o.ch L) v5 (staysL o.ch all) vt told cn) := by
            have hk := stays_keys (o := o.ch) HM.out.sub
            refine ⟨HDC4.out.quiet (fr_bel hb5), rowS_mono hr5 HDC4.out.bel.size, owns_fr HRT4.out (fr_bel hb5) (fun _ _ h => h), fun g h1 h2 => ?_, fun x hx => (hk x hx).2, ?_⟩
            · have h3 := (hr5.lt g h1).1
              have h4 := (HRT4.out.lt g h2).2
              omega
            · rw [HSD.out]; exact HM.out.tld.stay (fun x hx => (hk x hx).1)
          obtain ⟨g4, off4, ha4, c0, c1, c2⟩ := CELLS.out w5 HM5.out.dc.bel
          cases ha4
          rw [HO.out] at c0 c1 c2
          obtain ⟨L', hL'⟩ : ∃ L', changeL o.ch L = L' := ⟨_, rfl⟩
          obtain ⟨al, hal'⟩ : ∃ al, staysL o.ch all = al := ⟨_, rfl⟩
          obtain ⟨ct, hct⟩ : ∃ ct, o.count = ct := ⟨_, rfl⟩
          rw [hL', hal'] at HM5
          rw [hL'] at hlc
          rw [hal'] at hls
          rw [hct] at c2
          have hcI : InI ct := hct ▸ hko.2
          clear hL' hal' hr5 hb5 HDC4 HRA4 HRT4 HSD HM CELLS HO hct hko c0 c1
          by_cases hc0 : (0 : Int) ≤ ct
          · have hnx := next_any w5 d M' c ct HM5.out.dc.dat (by rw [HM5.out.dc.like.count]; omega) hcI.1 hcI.2
            have htl := Tld.next HM5.out.dc.like HM5.out.dc.dat.lold HM5.out.dc.dat.lyoung h3 HM5.out.tld HM5.out.sub ct
            have hkl := scanK_len HM5.out.dc.dat.inv HM5.out.dc.dat.lold HM5.out.dc.dat.lyoung cn ct
            have hcu := scan_cur HM5.out.dc.dat.inv HM5.out.dc.dat.lold HM5.out.dc.dat.lyoung cn ct
            rw [HWC.out, HCN.out] at hnx
            rw [HM5.out.dc.like.count] at hkl
            obtain ⟨R, hR⟩ : ∃ R, scanK M' cn ct = R := ⟨_, rfl⟩
            rw [hR] at hnx htl hkl hcu
            obtain ⟨R1, R2⟩ := R
            dsimp only at hkl hcu htl
            have HNX := Lib.hid hnx
            have HTL := Lib.hid htl
            clear hnx htl hR hcI
            go_wp2_with fail
            refine HNX.out.mono ?_
            rintro e w6 ⟨v6, rfl, hr6, hb6⟩
            dsimp only at hr6 ⊢
            have HM6 := Lib.hid (HM5.out.quiet (fr_bel hb6))
            have HRD := Lib.hid (RdC.of_owns hr6)
            have hrt := HM6.out.rt
            obtain ⟨vta, vtc, rfl⟩ := owns_slice hrt
            have HRT := Lib.hid hrt
            have HSZ := Lib.hid HM6.out.dc.bel.size
            obtain ⟨v6a, v6c, rfl⟩ := owns_slice hr6
            have HW1 := Lib.hid (wd_nat R1 hcu)
            have HU1 := Lib.hid (u64_nat R1 hcu)
            have hb1 : told.length + R2.length ≤ (k + 1 + 1) * 6291459 := by omega
            have hb2 : told.length + R2.length ≤ 6597083209500 := by omega
            have hf5 : (told ++ R2).length ≤ (k + 1 + 1) * 6291459 := by rw [List.length_append]; exact hb1
            have F5 := Lib.hid hf5
            have hf1 : k + 1 ≤ l3.length ∧ k + 1 ≤ 1048576 ∧ L'.length ≤ 1048577 + (k + 1) ∧ al.length ≤ 1048577 := ⟨by omega, by omega, by omega, by omega⟩
            have F1 := Lib.hid hf1
            clear hr6 hb6 hrt HNX HM5 hcu hf5 hf1 hb1
            go_wp2_with (at_builtin; refine wpl_append2 rfl (.tmp 98) (.tmp 99) 47 rfl w.heap.size 9 i0 (.string ⟨#[]⟩) 1 16 Try.underlying47 HI.out HZ0.out HZ1.out HZ2.out rfl (by decide) _ told.length _ rfl HRT.out _ R2.length _ rfl HRD.out (one_strs _) (by unfold maxLen; omega) (by omega) HSZ.out ?_; intro v' w8 hown hgrow hap; have HO8 := Lib.hid hown; have HG8 := Lib.hid hgrow; have HA8 := Lib.hid hap; clear hown hgrow hap)
            have HM8 : Hid (Mis w w8 d M' L' v5 al v' (told ++ R2) (UInt64.ofNat R1).toNat) := by
              refine HM6.out.app HG8.out (rowS_app HO8.out) HA8.out ?_
              rw [HU1.out]; exact HTL.out
            go_roundw
            case rel => exact ⟨k + 1, M', L', UInt64.ofNat R1, al, told ++ R2, by go_num, by rw [HW1.out], F1.out.1, F1.out.2.1, F1.out.2.2.1, F1.out.2.2.2, F5.out, HM8⟩
            case measure => simp [intOf]; omega
          · have hf1 : k + 1 ≤ l3.length ∧ k + 1 ≤ 1048576 ∧ L'.length ≤ 1048577 + (k + 1) ∧ al.length ≤ 1048577 ∧ told.length ≤ (k + 1 + 1) * 6291459 := ⟨by omega, by omega, by omega, by omega, Nat.le_trans htd (Nat.mul_le_mul_right _ (Nat.le_succ _))⟩
            have F1 := Lib.hid hf1
            clear hf1 hcI
            go_wp2_with fail
            go_roundw
            case rel => exact ⟨k + 1, M', L', c, al, told, by go_num, by rw [HWC.out], F1.out.1, F1.out.2.1, F1.out.2.2.1, F1.out.2.2.2.1, F1.out.2.2.2.2, by rw [HCN.out]; exact HM5⟩
            case measure => simp [intOf]; omega
        · rw [decide_eq_false hgo]
          have htd2 : told.length ≤ 6597083209500 := by omega
          have hLL : L.length ≤ 2097153 := by omega
          have hmn : M.n ≤ 2097153 := by rw [HM.out.dc.like.count]; exact hLL
          clear hgo htd hk hk2 hLk HR3
          obtain ⟨vta, vtc, hvt⟩ := owns_slice HM.out.rt
          subst hvt
          obtain ⟨vaa, vac, hva⟩ := owns_slice HM.out.ra
          subst hva
          obtain ⟨wk, rfl⟩ : ∃ x, x = wc := ⟨_, rfl⟩
          go_upto_if 102 with (fail)
          go_cut [11] from 101 to 113 (fun vt wx => ∃ told', Hid (RowS w.heap.size wx (.slice vaa all.length vac) all) ∧ Hid (RowS w.heap.size wx vt told') ∧ Hid (Below w.heap.size w wx) ∧ Hid (∀ x ∈ all, x ∈ told'))
          case first =>
            by_cases hz : cn = 0
            · subst hz
              have HFIN : Hid (∀ x ∈ all, x ∈ told) := fun x hx => HM.out.tld x hx (.inl rfl)
              go_wp2
              go_meet
              case rel => exact ⟨told, HM.out.ra, HM.out.rt, HM.out.dc.bel, HFIN⟩
            · have q3 : ((cn : Int) != 0) = true := by rw [bne_iff_ne]; omega
              have hrs := rest_any wk d M c 3 HM.out.dc.dat (by omega) (by decide) (by decide)
              rw [HWC.out, HCN.out] at hrs
              have HRS := Lib.hid hrs
              clear hrs hz
              go_wp2_with fail
              refine HRS.out.mono ?_
              rintro e w6 ⟨v6, l6, rfl, hr6, hb6, hrest⟩
              have HM6 := Lib.hid (HM.out.quiet (fr_bel hb6))
              have HRD := Lib.hid (RdC.of_owns hr6)
              have HFIN := Lib.hid (HM.out.tld.rest HM.out.dc.like HM.out.sub hrest)
              have hl6 : l6.length ≤ 6291459 := by have := hrest.len; omega
              have HSZ := Lib.hid HM6.out.dc.bel.size
              have HRT := Lib.hid HM6.out.rt
              obtain ⟨v6a, v6c, rfl⟩ := owns_slice hr6
              clear hr6 hb6 hrest HRS HM
              go_wp2_with (at_builtin; refine wpl_append2 rfl (.tmp 109) (.tmp 110) 47 rfl w.heap.size 9 i0 (.string ⟨#[]⟩) 1 16 Try.underlying47 HI.out HZ0.out HZ1.out HZ2.out rfl (by decide) _ told.length _ rfl HRT.out _ l6.length _ rfl HRD.out (one_strs _) (by unfold maxLen; omega) (by omega) HSZ.out ?_; intro v' w8 hown hgrow hap; have HO8 := Lib.hid hown; have HG8 := Lib.hid hgrow; have HA8 := Lib.hid hap; clear hown hgrow hap)
              go_meet
              case rel => exact ⟨told ++ l6, owns_fr HM6.out.ra (Fr.of_grownBy HG8.out) (fun g h1 h2 => HM6.out.dis g h1 h2), rowS_app HO8.out, (HM6.out.dc.grown HM6.out.rt (Nat.le_refl _) HG8.out).bel, HFIN⟩
          case rest =>
          obtain ⟨told', HRA, HRT, HBL, HFIN⟩ := hcut
          obtain ⟨vt, rfl⟩ : ∃ v, v = u11 := ⟨_, rfl⟩
          obtain ⟨wx, rfl⟩ : ∃ x, x = wc := ⟨_, rfl⟩
          clear HM HWC HCN
          go_wp2_with fail
          go_loopw [17] (fun i wr => ∃ (k : Nat), i = .int .i64 k ∧ k ≤ all.length ∧ Hid (wr = wx)) (fun i _ => all.length - (intOf i).toNat)
          case atStart => exact ⟨0, rfl, by omega, (show wx = wx from rfl)⟩
          case round =>
            obtain ⟨k3, rfl, hk3, HWR⟩ := hrel
            obtain ⟨wo, rfl⟩ : ∃ wo, wo = wr := ⟨_, rfl⟩
            by_cases hlt3 : k3 < all.length
            · have hrd := RdC.of_owns HRA.out
              obtain ⟨g1, o1, hga, cx⟩ := texts_at hrd k3 hlt3
              subst hga
              obtain ⟨x, hx⟩ : ∃ x, all[k3] = x := ⟨_, rfl⟩
              have hin := HFIN.out all[k3] (List.getElem_mem hlt3)
              rw [hx] at cx hin
              rw [← HWR.out] at cx
              have ham := among_any wo vt told' x (by rw [HWR.out]; exact RdC.of_owns HRT.out)
              rw [inL_iff.2 hin] at ham
              have HAM := Lib.hid ham
              clear hrd hin hx ham
              go_wp2_with fail
              refine HAM.out.mono ?_
              rintro e w' ⟨rfl, rfl⟩
              go_wp2_with fail
              go_roundw
              case rel => exact ⟨k3 + 1, by go_num, by omega, HWR⟩
              case measure => simp [intOf]; omega
            · obtain rfl : k3 = all.length := by omega
              go_wp2
              go_ret
              exact ⟨rfl, by rw [HWR.out]; exact HBL.out⟩
set_option maxRecDepth 100000 in
theorem scanMisses_lifted (os : Os) (started : os.Started) (H : Type) (enc : TypeId × Value → H) :
    ReturnsInHanded {} Try.checked os 16 .any (Rows.scanMissesSpec.pre6 enc Try.prog Try.f16 Rows.scanMissesRow.domain false) (Rows.scanMissesSpec.post enc Try.prog Try.f16 false true false false) := by
  refine returnsInHanded_of_change_sized (C := Try.checked) own started (by kernel_rfl) Try.func16
    (ChangeSpec.witness6 (enc := enc) (C := Try.checked) false ⟨#[], #[.int .u64 0, .slice none 0 0, .slice none 0 0], []⟩ 8 (by kernel_rfl) (by kernel_rfl) (by kernel_rfl) (by kernel_rfl)) ?_
  intro W base args ds gs before hval0 hW hcnd hsz0 _
  have hval : ∀ (j : Nat) t v, Try.f16.params[j]? = some t → args[j]? = some v → Value.okWide Try.prog W .any base t v := hval0
  have hW' := hW
  obtain ⟨p, q, hA0, hV, rfl, hfz, hnd⟩ := hW
  have hA : DataW.TrodAll enc Try.prog W 0 (fun _ => true) true Try.f16.params.toList args.toList ds p := hA0
  rw [Try.params16] at hA hval
  obtain ⟨v0, vs0, d0, ds0, p0, q0, hargs, rfl, rfl, h0, r0⟩ := trodAll_cons hA
  obtain ⟨v1, vs1, d1, ds1, p1, q1, rfl, rfl, rfl, h1, r1⟩ := trodAll_cons r0
  obtain ⟨v2, vs2, d2, ds2, p2, q2, rfl, rfl, rfl, h2, r2⟩ := trodAll_cons r1
  obtain ⟨rfl, rfl, rfl⟩ := trodAll_nil r2
  obtain rfl : args = #[v0, v1, v2] := by cases args; simp_all
  obtain ⟨rfl, rfl⟩ := trodVars_none hV
  have hsz : (DataW.weightsEach Try.prog [22, 79, 91] [d0, d1, d2]).all (fun x => decide (x ≤ reachBytes)) = true := by
    have h := hsz0
    simp only [List.append_nil] at h
    have e : (Try.f16.params.toList ++ DataSpec.varTypes Try.checked.prog Rows.scanMissesSpec.plain) = [22, 79, 91] := by kernel_rfl
    rw [e] at h; exact h
  clear hsz0
  obtain ⟨hw0, hsz0⟩ := weights_cons hsz
  obtain ⟨x0, rfl⟩ := open_word Try.underlying22 (hval 0 22 v0 rfl rfl) h0
  obtain ⟨hw1, hsz1⟩ := weights_cons hsz0
  obtain ⟨l1, hr1, hb1⟩ := open_list chb chb_len Try.underlying79 (by kernel_rfl) ch_read (hval 1 79 v1 rfl rfl) h1
  have hby1 : l1.length * 24 ≤ reachBytes := by
    have e : Try.prog.bytesOf 84 = 24 := by kernel_rfl
    rw [← e]; exact hb1 _ hw1
  obtain ⟨hw2, hsz2⟩ := weights_cons hsz1
  obtain ⟨l2, hr2, hb2⟩ := open_list stb stb_len Try.underlying91 (by kernel_rfl) st_read (hval 2 91 v2 rfl rfl) h2
  have hby2 : l2.length * 32 ≤ reachBytes := by
    have e : Try.prog.bytesOf 94 = 32 := by kernel_rfl
    rw [← e]; exact hb2 _ hw2
  clear hA0 hval0
  refine (scanMisses_walk W x0 v1 l1 hr1 hby1 v2 l2 hr2 hby2).mono fun e W' ⟨he, bel⟩ => ?_
  subst he
  exact ⟨_, rfl, law_post laidOut Try.underlying4 (by kernel_rfl) rfl (by kernel_rfl) hW' rfl bel⟩

theorem scanMisses_holds : Rows.ScanMissesSaid :=
  OpenClaim.holds_of_wide 16 Try.f16 rfl rfl rfl rfl rfl rfl rfl ⟨rfl, rfl, rfl, rfl, rfl⟩ rfl rfl rfl rfl rfl (by kernel_rfl) Try.func16 (by kernel_rfl)
    (of_decide_eq_true (by kernel_rfl)) (by unfold Func.isWrapper; rw [if_neg (of_decide_eq_false (by kernel_rfl))]; exact ⟨rfl, rfl⟩)
    (fun os started H enc _ => scanMisses_lifted os started H enc)
end Go.Proofs.Ytkecipdonamjaaa

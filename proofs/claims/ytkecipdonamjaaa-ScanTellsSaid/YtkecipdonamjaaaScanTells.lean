/- ScanTells: what is told, by the buckets that there are. No condition. -/
import Derived.Test.YtkecipdonamjaaaScanU
import Derived.Test.YtkecipdonamjaaaScanI
import Derived.Test.YtkecipdonamjaaaWrap
namespace Go.Proofs.Ytkecipdonamjaaa
open Go.ChangeShapes Go.WideShapes Go.ChangeAt Go.RowKit Di
open Go.ChangeMaps (open_string shut_string)
/-- a count as it comes in -/
abbrev CtB := { x : Int // InI x }
def ctb (x : CtB) : List Value := [.int .i64 x.1]
theorem ctb_len (x : CtB) : (ctb x).length = 1 := rfl
theorem ct_read {H : Type} {enc : TypeId × Value → H} {w : World} {base : Nat} {held : Bool} (n : Nat) (l : List Value) (y : DataW H × List MemPlace) (h : DataW.trod enc Try.prog w base (fun _ => true) held n 3 l = some y) : ∃ x : CtB, l = ctb x := by
  obtain ⟨x1, g1, _, hw1⟩ := DataW.trod_int Try.underlying3 h
  exact ⟨⟨x1, i64_of hw1⟩, g1⟩
/-- one text of a row of its own written over -/
theorem rowS_put {B : Nat} {w : World} {g n cap : Nat} {L : List ByteArray} (h : RowS B w (.slice (some ⟨g, 0, none⟩) n cap) L) (hn : n = L.length) (i : Nat) (hi : i < L.length) (x : ByteArray) :
    RowS B (w.setCell ⟨g, i, none⟩ (.string x)) (.slice (some ⟨g, 0, none⟩) n cap) (L.set i x) := by
  rcases h with ⟨h1, ⟨h2, _⟩ | ⟨g', cap', cur, he, hb, hg, hnc, hcm, hcs, htake⟩⟩
  · cases h2
  · cases he
    have e1 := heap_setCell_same w g i cur _ (.string x) hg
    refine ⟨by simp, .inr ⟨g, cap, _, by rw [List.length_set, hn], hb, e1, by rw [List.length_set]; exact hnc, hcm, by simpa using hcs, ?_⟩⟩
    rw [List.map_set, ← htake]
    simp only [Array.toList_setIfInBounds, List.take_set, List.length_set]
theorem rowS_at {B : Nat} {w : World} {a : Option Addr} {n cap : Nat} {L : List ByteArray} (h : RowS B w (.slice a n cap) L) (hn : n = L.length) (i : Nat) (hi : i < L.length) :
    ∃ g, a = some ⟨g, 0, none⟩ ∧ B ≤ g ∧ w.cell? ⟨g, i, none⟩ = some (.string L[i]) ∧ w.frozen? ⟨g, i, none⟩ = false := by
  have h0 := h
  rcases h with ⟨h1, ⟨h2, hz⟩ | ⟨g', cap', cur, he, hb, hg, hnc, hcm, hcs, htake⟩⟩
  · omega
  · cases he
    have hc := h0.cells rfl i (.string L[i]) (by rw [List.getElem?_map, List.getElem?_eq_getElem hi]; rfl)
    rw [Addr.add_lit, Nat.zero_add] at hc
    exact ⟨g', rfl, hb, hc, free_of_blk hg i⟩
set_option maxRecDepth 100000 in
set_option maxHeartbeats 4000000 in
theorem scanTells_walk0 (w : World) (x0 : UInt64) (v1 : Value) (l : List ChB) (hr : RdC w 2 v1 l.length (l.flatMap chb)) (_hby : l.length * 24 ≤ reachBytes) (v2 : Value) (l3 : List UInt64) (hr3 : RdC w 1 v2 l3.length (l3.map fun x => Value.int .u64 (wd x))) (_hby3 : l3.length * 8 ≤ reachBytes) (v3 : Value) (l4 : List CtB) (hr4 : RdC w 1 v3 l4.length (l4.flatMap ctb)) (_hby4 : l4.length * 8 ≤ reachBytes) :
    Calls Try.prog 15 #[.int .u64 (wd x0), v1, v2, v3] w fun e w' => e = .returned (.bool true) ∧ Below w.heap.size w w' := by
  have hk : (⟨#[97, 108, 119, 97, 121, 115]⟩ : ByteArray).size ≤ maxLen := by decide
  have HFEW := Lib.hid (fun (W : World) (h : RdC W 2 v1 l.length (l.flatMap chb)) => few_any W v1 l h)
  have HR := Lib.hid hr
  obtain ⟨-, a1, c1, rfl, -⟩ := hr
  have HR3 := Lib.hid hr3
  obtain ⟨-, a3, c3, rfl, -⟩ := hr3
  have HR4 := Lib.hid hr4
  obtain ⟨-, a4, c4, rfl, -⟩ := hr4
  go_enter Try.func15, Try.ntmps15
  go_wp2_with fail
  refine (wakes6_any _).mono ?_
  rintro e w1 ⟨rfl, hb1⟩
  have HB1 := Lib.hid hb1; clear hb1
  go_wp2_with fail
  refine (new_like _ x0 _ rfl).mono ?_
  rintro e w2 ⟨d, M0, rfl, D0, L0, -, ho0, hy0, -, HB0, hb2⟩
  have HD0 : Hid (Dc 1048577 w w2 d M0 []) := dc_start HB1.out D0 L0 ho0 hy0 HB0 hb2
  clear D0 L0 ho0 hy0 HB0 hb2
  go_wp2_with fail
  refine (HFEW.out w2 (HR.out.below HD0.out.bel)).mono ?_
  rintro e w' ⟨⟨vf, rfl, hr2⟩, rfl⟩
  have hr2 := hr2 w HR.out
  obtain ⟨l2, hl2⟩ : ∃ l2, l.take 1048576 = l2 := ⟨_, rfl⟩
  have hl2n : l2.length ≤ 1048576 := by rw [← hl2, List.length_take]; omega
  rw [hl2] at hr2
  have HR2 := Lib.hid hr2
  obtain ⟨-, a2, c2, rfl, -⟩ := hr2
  clear hl2 HFEW HR HB1
  go_wp2_with fail
  go_loopw [10] (fun i wr => ∃ (k : Nat) (M : DM) (L : Pl), i = .int .i64 k ∧ k ≤ l2.length ∧ L.length ≤ k + 1 ∧ Hid (Dc 1048577 w wr d M L)) (fun i _ => l2.length - (intOf i).toNat)
  case atStart => exact ⟨0, M0, [], rfl, by omega, by simp, HD0⟩
  case round =>
    obtain ⟨k, M, L, rfl, hk, hLk, HD⟩ := hrel
    clear HD0
    by_cases hlt : k < l2.length
    · obtain ⟨g, off, rfl, c0, c1⟩ := ch_at (HR2.out.below HD.out.bel) k hlt
      obtain ⟨o, ho⟩ : ∃ o, l2[k].1 = o := ⟨_, rfl⟩
      have hko : o.key.size ≤ maxLen := ho ▸ l2[k].2
      rw [ho] at c0 c1
      clear ho
      go_wp2_with fail
      refine (change_any wr d M L o HD.out.like (by omega) hko HD.out.dat).mono ?_
      rintro e w4 ⟨rfl, M', T, hl', hsl⟩
      have HD4 := Lib.hid (HD.out.turn T hl' hsl (by omega))
      have hLk' : (changeL o L).length ≤ k + 1 + 1 := Nat.le_trans (changeL_len o L) (by omega)
      clear T hl' hsl HD
      by_cases hc3 : k < l3.length
      · have hge : ¬ (l3.length : Int) ≤ (k : Int) := by omega
        go_upto_if 52 with (fail)
        go_cut [11] from 49 to 56 (fun t wc => wc = w4 ∧ ∃ ct : Int, InI ct ∧ t = .int .i64 ct)
        case first =>
          by_cases hc4 : k < l4.length
          · obtain ⟨g4, o4, e4, hcell⟩ := (HR4.out.below HD4.out.bel).at (by rw [HR4.out.1]; omega)
            have hcx := hcell k (.int .i64 l4[k].1) (by have := flat_at ctb 1 ctb_len l4 k 0 hc4 (by decide); rw [Nat.mul_one, Nat.add_zero] at this; rw [this]; rfl)
            subst e4
            obtain ⟨ct, hct⟩ : ∃ ct, l4[k].1 = ct := ⟨_, rfl⟩
            have hci : InI ct := hct ▸ l4[k].2
            rw [hct] at hcx
            have HCI := Lib.hid hci
            have hb0 : (0 : Int) ≤ (k : Int) := by omega
            have hb1 : (k : Int) < (l4.length : Int) := by omega
            clear hct hci hcell
            go_wp2
            go_meet
            case rel => exact ⟨rfl, ct, HCI.out, rfl⟩
          · go_wp2
            go_meet
            case rel => exact ⟨rfl, 10, by unfold InI; omega, rfl⟩
        case rest =>
        obtain ⟨rfl, ct, hct, rfl⟩ := hcut
        obtain ⟨w4, rfl⟩ : ∃ x, x = wc := ⟨_, rfl⟩
        have hold : M'.old.length ≤ 4194304 := by have := HD4.out.lens.1; omega
        have hyoung : M'.young.length ≤ 4194304 := by have := HD4.out.lens.2; omega
        have hMn : M'.n ≤ 1048577 := by rw [HD4.out.like.count]; omega
        go_wp2_with fail
        refine (tables_any w4 d M' HD4.out.dat (by omega) hold hyoung).mono ?_
        rintro e w5 ⟨t1, t2, rfl, B5, hts⟩
        have HTS := Lib.hid hts
        have HD5 := Lib.hid (HD4.out.quiet (fr_bel hts.bel))
        clear hts HD4
        have HRW1 := Lib.hid (show Rows6 w5 t1 M' 0 M'.old.length from by obtain ⟨x, hx⟩ := HTS.out.one; exact ⟨_, x, hx⟩)
        have HRW2 := Lib.hid (show Rows6 w5 t2 M' 1 M'.young.length from by obtain ⟨x, hx⟩ := HTS.out.two; exact ⟨_, x, hx⟩)
        have hcu : ∀ W : World, Below w.heap.size w W → ∃ g o, a3 = some ⟨g, o, none⟩ ∧ W.cell? ⟨g, o + k, none⟩ = some (.int .u64 (wd l3[k])) := fun W hb => by
          obtain ⟨g3, o3, e3, hcell⟩ := (HR3.out.below hb).at (by rw [List.length_map]; omega)
          exact ⟨g3, o3, e3, hcell k _ (by rw [List.getElem?_map, List.getElem?_eq_getElem hc3]; rfl)⟩
        obtain ⟨cu, hcue⟩ : ∃ cu, l3[k] = cu := ⟨_, rfl⟩
        rw [hcue] at hcu
        have HCU := Lib.hid hcu
        obtain ⟨g3, o3, e3, cx⟩ := hcu w5 HD5.out.bel
        subst e3
        have hb0 : (0 : Int) ≤ (k : Int) := by omega
        have hb1 : (k : Int) < (l3.length : Int) := by omega
        clear hcu hcue
        obtain ⟨R, hR⟩ : ∃ R, scanK M' cu.toNat ct = R := ⟨_, rfl⟩
        have HN := Lib.hid (fun (W : World) (hd : DAt W d M') => hR ▸ next_any W d M' cu ct hd (by omega) hct.1 hct.2)
        have HRN := Lib.hid (fun (W : World) (h1 : Rows6 W t1 M' 0 M'.old.length) (h2 : Rows6 W t2 M' 1 M'.young.length) => hR ▸ refNext_any W t1 t2 M' cu ct HD5.out.dat.inv hold hyoung (by omega) hct.1 hct.2 h1 h2)
        have HRL : Hid (R.2.length ≤ 3 * M'.n) := by show _ ≤ _; rw [← hR]; exact scanK_len HD5.out.dat.inv (by omega) (by omega) _ _
        obtain ⟨R1, R2⟩ := R
        dsimp only at HN HRN HRL
        clear hR
        go_wp2_with fail
        refine (HN.out w5 HD5.out.dat).mono ?_
        rintro e w6 ⟨v6, rfl, hr6, hb6⟩
        dsimp only at hr6 ⊢
        have HD6 := Lib.hid (HD5.out.quiet (fr_bel hb6))
        have HR6 := Lib.hid hr6
        have HB56 := Lib.hid hb6
        obtain ⟨g3', o3', e3, cx⟩ := HCU.out w6 HD6.out.bel
        cases e3
        clear hr6 hb6
        go_wp2_with fail
        refine (HRN.out w6 (HRW1.out.fr (fr_bel HB56.out)) (HRW2.out.fr (fr_bel HB56.out))).mono ?_
        rintro e w7 ⟨v7, rfl, hr7, hb7⟩
        have HD7 := Lib.hid (HD6.out.quiet (fr_bel hb7))
        have HR7 := Lib.hid hr7
        have HB67 := Lib.hid hb7
        obtain ⟨g3', o3', e3, cx⟩ := HCU.out w7 HD7.out.bel
        cases e3
        clear hr7 hb7 HD6
        go_wp2_with fail
        refine (HN.out w7 HD7.out.dat).mono ?_
        rintro e w8 ⟨v8, rfl, hr8, hb8⟩
        dsimp only at hr8 ⊢
        have HB78 := Lib.hid hb8
        have HD8 := Lib.hid (HD7.out.quiet (fr_bel hb8))
        have HR8 := Lib.hid hr8
        clear hr8 hb8
        have g1 : ((R1 : Int) != (R1 : Int)) = false := by simp
        have HR68 := Lib.hid (owns_fr (owns_fr HR6.out (fr_bel HB67.out) (fun _ _ h => h)) (fr_bel HB78.out) (fun _ _ h => h))
        have HR78 := Lib.hid (owns_fr HR7.out (fr_bel HB78.out) (fun _ _ h => h))
        have hsm1 := same6_any w8 v6 v7 R2 R2 (RdC.of_owns HR68.out) (RdC.of_owns HR78.out)
        rw [decide_eq_true (rfl : R2 = R2)] at hsm1
        have HSM1 := Lib.hid hsm1
        have HSM2 := Lib.hid (fun (m : Nat) => same6_any (w8.drewN m) v8 v7 R2 R2 (RdC.of_owns (owns_fr HR8.out (Fr.drewN (fun _ => False) w8 m) (fun _ _ h => h))) (RdC.of_owns (owns_fr HR78.out (Fr.drewN (fun _ => False) w8 m) (fun _ _ h => h))))
        rw [decide_eq_true (rfl : R2 = R2)] at HSM2
        clear hsm1
        go_wp2_with fail
        refine HSM1.out.mono ?_
        rintro e w9 ⟨rfl, m9, rfl⟩
        go_wp2_with fail
        refine (HSM2.out m9).mono ?_
        rintro e w9 ⟨rfl, m9', rfl⟩
        obtain ⟨wS, hwS⟩ : ∃ W, (w8.drewN m9).drewN m9' = W := ⟨_, rfl⟩
        have hfS : Fr (fun _ => False) w8 wS := by rw [← hwS]; exact (Fr.drewN (fun _ => False) w8 m9).thenDrewN m9'
        have HRS : Hid (RowS w7.heap.size wS v8 R2) := owns_fr HR8.out hfS (fun _ _ h => h)
        have HBS : Hid (Below w7.heap.size w7 wS) := HB78.out.trans (hfS.below HB78.out.size (fun _ h => h.elim))
        rw [hwS]
        obtain ⟨v8a, v8c, hv8⟩ := owns_slice HRS.out
        subst hv8
        clear hfS hwS HSM1 HSM2 HR68 HR78 HR8 HD8 HB78 HN HRN HCU hct cx
        have hRl : R2.length ≤ 3145731 := by have := HRL.out; omega
        go_wp2_with fail
        go_loopg [20] R2.length (fun gh t20 wr => ∃ (j : Nat) (Lk : List ByteArray), t20 = .int .i64 j ∧ j ≤ R2.length ∧ Lk.length = R2.length ∧ Hid (RowS w7.heap.size wr (.slice v8a R2.length v8c) Lk) ∧ Hid (Below w7.heap.size w7 wr) ∧ Hid (R2.length ≤ j + gh))
        case atStart => exact ⟨0, R2, rfl, by omega, rfl, HRS, HBS, (Nat.le_add_left _ _ : R2.length ≤ _)⟩
        case round =>
          obtain ⟨j, Lk, rfl, hj, hlk, HRK, HBK, HJ⟩ := hrel
          obtain ⟨wo, rfl⟩ : ∃ wo, wo = wr := ⟨_, rfl⟩
          clear HRS HBS
          by_cases hlt5 : j < R2.length
          · obtain ⟨g8, e8, hb8, hc8, hf8⟩ := rowS_at HRK.out hlk.symm j (by omega)
            subst e8
            have HB8 := Lib.hid hb8
            have hlk' := hlk
            clear hb8
            go_wp2_with fail
            go_roundg (R2.length - (j + 1))
            case measure => have := HJ.out; omega
            case rel => exact ⟨j + 1, Lk.set j ⟨#[63, 33]⟩, by go_num, by omega, by rw [List.length_set]; exact hlk', rowS_put HRK.out hlk'.symm j (by omega) _, HBK.out.setCell HB8.out _, (show _ ≤ _ by omega)⟩
          · obtain rfl : j = R2.length := by omega
            obtain ⟨i0, hi, hz0, hz1, hz2⟩ := info_parts info_str
            have HI := Lib.hid hi
            have HZ0 := Lib.hid hz0
            have HZ1 := Lib.hid hz1
            have HZ2 := Lib.hid hz2
            have HLK := Lib.hid hlk
            clear hi hz0 hz1 hz2 HJ hlk
            go_wp2_with fail
            go_loopw [19, 21] (fun v i wr => ∃ (j : Nat) (Lk : List ByteArray) (va : Option Addr) (vc : Nat), v = .slice va (R2.length + j) vc ∧ i = .int .i64 j ∧ j ≤ 20 ∧ Hid (Lk.length = R2.length + j) ∧ Hid (RowS w7.heap.size wr (.slice va (R2.length + j) vc) Lk) ∧ Hid (Below w7.heap.size w7 wr)) (fun _ i _ => 20 - (intOf i).toNat)
            case atStart => exact ⟨0, Lk, v8a, v8c, rfl, rfl, by omega, HLK.out, HRK.out, HBK.out⟩
            case round =>
              obtain ⟨j, Lj, va, vc, rfl, rfl, hj, HLJ, HRJ, HBJ⟩ := hrel
              obtain ⟨wo, rfl⟩ : ∃ wo, wo = wr := ⟨_, rfl⟩
              clear HRK HBK HLK
              by_cases hlt6 : j < 20
              · have hrow : wo.ownsRow w7.heap.size 9 1 (.slice va (R2.length + j) vc) (R2.length + j) (Lj.map .string) := by have := HRJ.out; unfold RowS at this; rwa [HLJ.out] at this
                have HROW := Lib.hid hrow
                clear hrow HRJ
                go_wp2_with (at_builtin; refine wpl_append rfl (.tmp 126) (.tmp 127) 47 rfl w7.heap.size 9 i0 (.string ⟨#[]⟩) 1 16 Try.underlying47 HI.out HZ0.out HZ1.out HZ2.out rfl (by decide) _ (R2.length + j) _ rfl (HROW.out.alloc _) _ 1 [.string ⟨#[33, 63]⟩] rfl (RdC.of_owns (World.ownsRow_lit (e := 9) wo #[.string ⟨#[33, 63]⟩] 1 (Nat.le_refl _) (by decide) rfl)) (by simp [Value.oneCell']) (by unfold maxLen; omega) (by omega) (by have := HBJ.out.size; simp; omega) ?_; intro v' w9 hown hgrow; obtain ⟨va9, vc9, rfl⟩ := owns_slice hown; have HO9 := Lib.hid hown; have HG9 := Lib.hid hgrow; clear hown hgrow)
                have HB9 : Hid (Below w7.heap.size w7 w9) := (HBJ.out.alloc HBJ.out.size _).grown HG9.out (by have := HBJ.out.size; simp; omega) (fun k e => ((HROW.out.alloc (.cells #[.string ⟨#[33, 63]⟩] 9 (0, 0))).lt k e).1)
                have HO9' : Hid (RowS w7.heap.size w9 (.slice va9 (R2.length + (j + 1)) vc9) (Lj ++ [⟨#[33, 63]⟩])) := by
                  have h := HO9.out
                  show w9.ownsRow _ _ _ _ _ _
                  rw [List.map_append, List.length_append, HLJ.out]
                  exact h
                have HL9 : Hid ((Lj ++ [(⟨#[33, 63]⟩ : ByteArray)]).length = R2.length + (j + 1)) := by show _ = _; rw [List.length_append, HLJ.out]; rfl
                go_roundw
                case rel => exact ⟨j + 1, Lj ++ [⟨#[33, 63]⟩], va9, vc9, rfl, by go_num, by omega, HL9, HO9', HB9⟩
                case measure => simp [intOf]; omega
              · obtain rfl : j = 20 := by omega
                have HDo := Lib.hid (HD7.out.quiet (fr_bel HBJ.out))
                have HR6o := Lib.hid (owns_fr (owns_fr HR6.out (fr_bel HB67.out) (fun _ _ h => h)) (fr_bel HBJ.out) (fun _ _ h => h))
                have HR7o := Lib.hid (owns_fr HR7.out (fr_bel HBJ.out) (fun _ _ h => h))
                have HT1o := Lib.hid (((HRW1.out.fr (fr_bel HB56.out)).fr (fr_bel HB67.out)).fr (fr_bel HBJ.out))
                have HT2o := Lib.hid (((HRW2.out.fr (fr_bel HB56.out)).fr (fr_bel HB67.out)).fr (fr_bel HBJ.out))
                obtain ⟨b1, cc1, hb1⟩ := HT1o.out.slice
                obtain ⟨b2, cc2, hb2⟩ := HT2o.out.slice
                have HTB := Lib.hid (tables_any wo d M' HDo.out.dat (by omega) hold hyoung)
                obtain ⟨A, hA⟩ : ∃ n, M'.old.length = n := ⟨_, rfl⟩
                obtain ⟨Y, hY⟩ : ∃ n, M'.young.length = n := ⟨_, rfl⟩
                rw [hA] at HT1o hb1 HTB hold
                rw [hY] at HT2o hb2 HTB hyoung
                subst hb1
                subst hb2
                clear HD7 HR6 HR7 HRW1 HRW2 HB56 HB67 HBJ HTS HRJ HLJ
                go_wp2_with fail
                refine HTB.out.mono ?_
                rintro e w10 ⟨s1, s2, rfl, B10, hts⟩
                have HTS := Lib.hid hts
                have HD10 := Lib.hid (HDo.out.quiet (fr_bel hts.bel))
                have HS1 := Lib.hid (show Rows6 w10 s1 M' 0 A from by obtain ⟨x, hx⟩ := HTS.out.one; exact ⟨_, x, hx⟩)
                have HS2 := Lib.hid (show Rows6 w10 s2 M' 1 Y from by obtain ⟨x, hx⟩ := HTS.out.two; exact ⟨_, x, hx⟩)
                have HT1 := Lib.hid (HT1o.out.fr (fr_bel hts.bel))
                have hsm3 := same6_any w10 v6 v7 R2 R2 (RdC.of_owns (owns_fr HR6o.out (fr_bel hts.bel) (fun _ _ h => h))) (RdC.of_owns (owns_fr HR7o.out (fr_bel hts.bel) (fun _ _ h => h)))
                rw [decide_eq_true (rfl : R2 = R2)] at hsm3
                have HSM3 := Lib.hid hsm3
                obtain ⟨e1, q1, he1⟩ := HS1.out.slice
                obtain ⟨e2, q2, he2⟩ := HS2.out.slice
                subst he1
                subst he2
                clear hsm3 hts HDo HR6o HR7o HT1o HT2o HTB hA hY HTS
                have g2 : ((A : Int) != (A : Int)) = false := by simp
                have g3 : ((Y : Int) != (Y : Int)) = false := by simp
                have g4 : ¬ ((R2.length : Int) + 20 < 20) := by omega
                have g5 : ¬ (R2.length + 20 < 20) := by omega
                go_wp2_with fail
                refine HSM3.out.mono ?_
                rintro e w11 ⟨rfl, m11, rfl⟩
                have HSM := Lib.hid (fun (W : World) (u1 u2 : Value) (L : List ByteArray) (h1 : RdC W 1 u1 L.length (L.map .string)) (h2 : RdC W 1 u2 L.length (L.map .string)) => show Calls Try.prog 54 #[u1, u2] W fun e w' => e = .returned (.bool true) ∧ ∃ m, w' = W.drewN m by have h := same6_any W u1 u2 L L h1 h2; rwa [decide_eq_true (rfl : L = L)] at h)
                clear HSM3
                go_wp2_with fail
                go_loopw [24] (fun i wr => ∃ (j m : Nat), i = .int .i64 j ∧ j ≤ A ∧ Hid (wr = w10.drewN m)) (fun i _ => A - (intOf i).toNat)
                case atStart => exact ⟨0, m11, rfl, by omega, (show w10.drewN m11 = w10.drewN m11 from rfl)⟩
                case round =>
                  obtain ⟨j, m, rfl, hj, HWR⟩ := hrel
                  obtain ⟨wq, rfl⟩ : ∃ x, x = wr := ⟨_, rfl⟩
                  have hfw : Fr (fun _ => False) w10 wq := by rw [HWR.out]; exact Fr.drewN _ _ _
                  have HFW := Lib.hid hfw
                  clear hfw
                  by_cases hlt7 : j < A
                  · obtain ⟨x1, y1, rfl, cA, rA⟩ := (HT1.out.fr HFW.out).at j hlt7
                    obtain ⟨x2, y2, rfl, cB, rB⟩ := (HS1.out.fr HFW.out).at j hlt7
                    obtain ⟨L0, hL0⟩ : ∃ L0, bucketK M' ((0 : Nat) : Int) (j : Int) = L0 := ⟨_, rfl⟩
                    rw [hL0] at rA rB
                    have RA := Lib.hid rA
                    have RB := Lib.hid rB
                    have HC : Hid (∀ n, Calls Try.prog 54 #[y1, y2] (wq.drewN n) fun e w' => e = .returned (.bool true) ∧ ∃ m, w' = wq.drewN m) := fun n =>
                      (HSM.out (wq.drewN n) y1 y2 L0 (RA.out.fr (Fr.drewN (fun _ => False) wq n) (fun _ _ h => h)) (RB.out.fr (Fr.drewN (fun _ => False) wq n) (fun _ _ h => h))).mono fun e w' ⟨h2, m2, h3⟩ => ⟨h2, n + m2, by rw [h3]; exact drewN_drewN _ _ _⟩
                    have hb0 : (0 : Int) ≤ (j : Int) := by omega
                    have hb1 : (j : Int) < (A : Int) := by omega
                    clear rA rB hL0
                    go_upto_region 35 with (fail)
                    go_quiet ((go_at_call 54; with_reducible exact HC.out _))
                    go_wp2
                    go_roundw
                    case rel => exact ⟨j + 1, m + nq, by go_num, by omega, (show wq.drewN nq = _ by rw [HWR.out]; exact drewN_drewN _ _ _)⟩
                    case measure => simp [intOf]; omega
                  · obtain rfl : j = A := by omega
                    have HDF := Lib.hid (HD10.out.quiet HFW.out)
                    go_wp2_with fail
                    go_roundw
                    case rel => exact ⟨k + 1, M', changeL o L, by go_num, by omega, by omega, HDF⟩
                    case measure => simp [intOf]; omega
      · have hge : (l3.length : Int) ≤ (k : Int) := by omega
        go_wp2_with fail
        go_roundw
        case rel => exact ⟨k + 1, M', changeL o L, by go_num, by omega, by omega, HD4⟩
        case measure => simp [intOf]; omega
    · obtain rfl : k = l2.length := by omega
      go_wp2
      go_ret
      exact ⟨rfl, HD.out.bel⟩
theorem scanTells_walk (w : World) (x0 : UInt64) (v1 : Value) (l : List ChB) (hr : RdC w 2 v1 l.length (l.flatMap chb)) (hby : l.length * 24 ≤ reachBytes) (v2 : Value) (l3 : List UInt64) (hr3 : RdC w 1 v2 l3.length (l3.flatMap (fun u => [u64 u]))) (hby3 : l3.length * 8 ≤ reachBytes) (v3 : Value) (l4 : List CtB) (hr4 : RdC w 1 v3 l4.length (l4.flatMap ctb)) (hby4 : l4.length * 8 ≤ reachBytes) :
    Calls Try.prog 15 #[.int .u64 (wd x0), v1, v2, v3] w fun e w' => e = .returned (.bool true) ∧ Below w.heap.size w w' :=
  scanTells_walk0 w x0 v1 l hr hby v2 l3 (by rw [word_flat] at hr3; exact hr3) hby3 v3 l4 hr4 hby4
set_option maxRecDepth 100000 in
theorem scanTells_lifted (os : Os) (started : os.Started) (H : Type) (enc : TypeId × Value → H) :
    ReturnsInHanded {} Try.checked os 15 .any (Rows.scanTellsSpec.pre6 enc Try.prog Try.f15 Rows.scanTellsRow.domain false) (Rows.scanTellsSpec.post enc Try.prog Try.f15 false true false false) := by
  refine returnsInHanded_of_change_sized (C := Try.checked) own started (by kernel_rfl) Try.func15
    (ChangeSpec.witness6 (enc := enc) (C := Try.checked) false ⟨#[], #[.int .u64 0, .slice none 0 0, .slice none 0 0, .slice none 0 0], []⟩ 8 (by kernel_rfl) (by kernel_rfl) (by kernel_rfl) (by kernel_rfl)) ?_
  intro W base args ds gs before hval0 hW hcnd hsz0 _
  have hval : ∀ (j : Nat) t v, Try.f15.params[j]? = some t → args[j]? = some v → Value.okWide Try.prog W .any base t v := hval0
  have hW' := hW
  obtain ⟨p, q, hA0, hV, rfl, hfz, hnd⟩ := hW
  have hA : DataW.TrodAll enc Try.prog W 0 (fun _ => true) true Try.f15.params.toList args.toList ds p := hA0
  rw [Try.params15] at hA hval
  obtain ⟨v0, vs0, d0, ds0, p0, q0, hargs, rfl, rfl, h0, r0⟩ := trodAll_cons hA
  obtain ⟨v1, vs1, d1, ds1, p1, q1, rfl, rfl, rfl, h1, r1⟩ := trodAll_cons r0
  obtain ⟨v2, vs2, d2, ds2, p2, q2, rfl, rfl, rfl, h2, r2⟩ := trodAll_cons r1
  obtain ⟨v3, vs3, d3, ds3, p3, q3, rfl, rfl, rfl, h3, r3⟩ := trodAll_cons r2
  obtain ⟨rfl, rfl, rfl⟩ := trodAll_nil r3
  obtain rfl : args = #[v0, v1, v2, v3] := by cases args; simp_all
  obtain ⟨rfl, rfl⟩ := trodVars_none hV
  have hsz : (DataW.weightsEach Try.prog [22, 79, 80, 25] [d0, d1, d2, d3]).all (fun x => decide (x ≤ reachBytes)) = true := by
    have h := hsz0
    simp only [List.append_nil] at h
    have e : (Try.f15.params.toList ++ DataSpec.varTypes Try.checked.prog Rows.scanTellsSpec.plain) = [22, 79, 80, 25] := by kernel_rfl
    rw [e] at h; exact h
  clear hsz0
  obtain ⟨hw0, hsz0⟩ := weights_cons hsz
  obtain ⟨x0, rfl⟩ := open_word Try.underlying22 (hval 0 22 v0 rfl rfl) h0
  obtain ⟨hw1, hsz1⟩ := weights_cons hsz0
  obtain ⟨l1, hr1, hb1⟩ := open_list chb chb_len Try.underlying79 (by kernel_rfl) ch_read (hval 1 79 v1 rfl rfl) h1
  have hby1 : l1.length * 24 ≤ reachBytes := by
    have e : Try.prog.bytesOf 84 = 24 := by kernel_rfl
    rw [← e]; exact hb1 _ hw1
  obtain ⟨hw2, hsz2⟩ := weights_cons hsz1
  obtain ⟨l2, hr2, hb2⟩ := open_list (fun u => [u64 u]) (fun _ => rfl) Try.underlying80 (by kernel_rfl) (word_cells Try.underlying22) (hval 2 80 v2 rfl rfl) h2
  have hby2 : l2.length * 8 ≤ reachBytes := by
    have e : Try.prog.bytesOf 22 = 8 := by kernel_rfl
    rw [← e]; exact hb2 _ hw2
  obtain ⟨hw3, hsz3⟩ := weights_cons hsz2
  obtain ⟨l3, hr3, hb3⟩ := open_list ctb ctb_len Try.underlying25 (by kernel_rfl) ct_read (hval 3 25 v3 rfl rfl) h3
  have hby3 : l3.length * 8 ≤ reachBytes := by
    have e : Try.prog.bytesOf 3 = 8 := by kernel_rfl
    rw [← e]; exact hb3 _ hw3
  clear hA0 hval0
  refine (scanTells_walk W x0 v1 l1 hr1 hby1 v2 l2 hr2 hby2 v3 l3 hr3 hby3).mono fun e W' ⟨he, bel⟩ => ?_
  subst he
  exact ⟨_, rfl, law_post laidOut Try.underlying4 (by kernel_rfl) rfl (by kernel_rfl) hW' rfl bel⟩

theorem scanTells_holds : Rows.ScanTellsSaid :=
  OpenClaim.holds_of_wide 15 Try.f15 rfl rfl rfl rfl rfl rfl rfl ⟨rfl, rfl, rfl, rfl, rfl⟩ rfl rfl rfl rfl rfl (by kernel_rfl) Try.func15 (by kernel_rfl)
    (of_decide_eq_true (by kernel_rfl)) (by unfold Func.isWrapper; rw [if_neg (of_decide_eq_false (by kernel_rfl))]; exact ⟨rfl, rfl⟩)
    (fun os started H enc _ => scanTells_lifted os started H enc)
end Go.Proofs.Ytkecipdonamjaaa

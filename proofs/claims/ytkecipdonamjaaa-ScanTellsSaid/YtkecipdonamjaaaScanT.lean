/- The walks of the document's own scan: at, once, Next. No condition. -/
import Derived.Test.YtkecipdonamjaaaScanH
namespace Go.Proofs.Ytkecipdonamjaaa
open Go.ChangeShapes Go.WideShapes Go.ChangeAt Go.RowKit Di
/-- a dictionary's buckets as a row of rows, read at a world -/
structure Rows6 (w : World) (v : Value) (M : DM) (t n : Nat) : Prop where
  out : ∃ B x, TabV B w v (bkts M t n) x
theorem Rows6.fr {w w' : World} {v : Value} {M : DM} {t n : Nat} (h : Rows6 w v M t n) (hf : Fr (fun _ => False) w w') : Rows6 w' v M t n := by
  obtain ⟨B, x, h⟩ := h.out
  exact ⟨B, x, h.fr hf⟩
theorem Rows6.slice {w : World} {v : Value} {M : DM} {t n : Nat} (h : Rows6 w v M t n) : ∃ a c, v = .slice a n c := by
  obtain ⟨B, x, h⟩ := h.out
  obtain ⟨a, c, rfl⟩ := owns_slice h.row
  exact ⟨a, c, by rw [bkts_len]⟩
theorem Rows6.at {w : World} {a : Option Addr} {c n' : Nat} {M : DM} {t n : Nat} (h : Rows6 w (.slice a n' c) M t n) (k : Nat) (hk : k < n) :
    ∃ g u, a = some ⟨g, 0, none⟩ ∧ w.cell? ⟨g, k, none⟩ = some u ∧ RdC w 1 u (bucketK M (t : Int) (k : Int)).length ((bucketK M (t : Int) (k : Int)).map .string) := by
  obtain ⟨B, x, h⟩ := h.out
  obtain ⟨g, u, e1, e2, e3⟩ := h.at k (by rw [bkts_len]; exact hk)
  have e4 : (bkts M t n)[k]'(by rw [bkts_len]; exact hk) = bucketK M (t : Int) (k : Int) := by simp [bkts]
  rw [e4] at e3
  exact ⟨g, u, e1, e2, RdC.of_owns e3⟩
set_option maxHeartbeats 1000000 in
theorem at_any (w : World) (v : Value) (M : DM) (t n : Nat) (c : UInt64) (h : Rows6 w v M t n) (hn : 0 < n) (hn2 : n ≤ 4194304) :
    Calls Try.prog 115 #[v, .int .u64 (wd c)] w fun e w' => (∃ u, e = .returned u ∧ RdC w 1 u (bucketK M (t : Int) ((c.toNat % n : Nat) : Int)).length ((bucketK M (t : Int) ((c.toNat % n : Nat) : Int)).map .string)) ∧ w = w' := by
  obtain ⟨a, cp, rfl⟩ := h.slice
  have hm : (wd c).tmod (n : Int) = ((c.toNat % n : Nat) : Int) := by
    show (((c.toNat : Nat) : Int)).tmod (n : Int) = _
    rw [← Int.ofNat_tmod]
  have hql := Nat.mod_lt c.toNat hn
  obtain ⟨q, hq⟩ : ∃ q, c.toNat % n = q := ⟨_, rfl⟩
  rw [hq] at hm hql ⊢
  obtain ⟨g, u, rfl, hc, hr⟩ := h.at q hql
  have HR := Lib.hid hr
  have hu1 : IntKind.u64.wrap (n : Int) = (n : Int) := IntWalk.u64_in _ (by omega)
  have hu2 : IntKind.i64.wrap (q : Int) = (q : Int) := IntWalk.i64_in _ (by omega)
  have hnz : ((n : Int) == 0) = false := beq_eq_false_iff_ne.2 (by omega)
  have hn0 : ¬ n = 0 := by omega
  have hn1 : ¬ (n : Int) = 0 := by omega
  clear hr h hq
  go_enter Try.func115, Try.ntmps115
  go_wp2
  go_ret
  exact ⟨⟨_, rfl, HR.out⟩, rfl⟩
theorem en_zero (p : Nat) : en 0 p = p + 1 := by unfold en; simp
/-- where nothing moves: one bucket -/
theorem turn_single {M : DM} (h : Inv M) (ho : M.old ≠ []) (hol : M.old.length ≤ 35184372088832) (hy : M.young = []) (cnt c : Nat) :
    (scanT M cnt).turnC c = aft (lg (M.old.length : Int)) c ∧ (scanT M cnt).turnK c = bucketK M 0 ((c % M.old.length : Nat) : Int) := by
  have T := tabs h ho cnt
  have hop : 0 < M.old.length := List.length_pos_iff.2 ho
  have hw : whichM M = 0 := by unfold whichM; rw [hy, if_pos (by simpa using hop)]
  have hgm : greatM M = M.old.length := by unfold greatM; rw [hy, if_pos (by simpa using hop)]
  have hsm : smallM M = 0 := by unfold smallM; rw [hy, if_pos (by simpa using hop)]; rfl
  obtain ⟨B, hB⟩ : ∃ B, scanT M cnt = B := ⟨_, rfl⟩
  have hG : ∀ q : Nat, B.G q = bucketK M (whichM M : Nat) (q : Int) := fun q => by rw [← hB]; rfl
  have hS : ∀ c : Nat, B.S c = if smallM M = 0 then [] else bucketK M ((1 - whichM M : Nat) : Int) ((c % smallM M : Nat) : Int) := fun q => by rw [← hB]; rfl
  rw [hB] at T ⊢
  have hr : B.r = 0 := by
    rcases T.small with ⟨_, e⟩ | ⟨s, e, _⟩
    · exact e
    · rw [hsm] at e; have := Nat.two_pow_pos s; omega
  have hg2 : M.old.length = 2 ^ B.g := by rw [← hgm]; exact T.great
  have hg45 := great_bound hol (by rw [hy]; simp) T.great
  have hlg : lg (M.old.length : Int) = B.g := by rw [hg2]; exact lg_pow B.g (by omega)
  refine ⟨?_, ?_⟩
  · rw [hlg]
    unfold TB.turnC aft
    rw [hr, en_zero]
  · unfold TB.turnK
    rw [hr, en_zero, blk_snoc _ _ _ _ (Nat.le_refl _), blk_nil, hS, if_pos hsm, List.nil_append, List.nil_append, hG, tr_tr, hw, hg2]
    rfl
set_option maxRecDepth 100000 in
set_option maxHeartbeats 2000000 in
theorem once_any (w : World) (v1 v2 : Value) (M : DM) (c : UInt64) (cnt : Nat) (hinv : Inv M) (ho : M.old ≠ []) (hol : M.old.length ≤ 4194304) (hyl : M.young.length ≤ 4194304) (hn : M.n ≤ 1099511627776)
    (h1 : Rows6 w v1 M 0 M.old.length) (h2 : Rows6 w v2 M 1 M.young.length) :
    Calls Try.prog 93 #[v1, v2, .int .u64 (wd c)] w fun e w' => ∃ u, e = .returned (.tuple #[.int .u64 ((scanT M cnt).turnC c.toNat : Nat), u]) ∧ RowS w.heap.size w' u ((scanT M cnt).turnK c.toNat) ∧ Below w.heap.size w w' := by
  have H1 := Lib.hid h1
  have H2 := Lib.hid h2
  obtain ⟨a1, c1, rfl⟩ := h1.slice
  obtain ⟨a2, c2, rfl⟩ := h2.slice
  obtain ⟨i0, hi, hz0, hz1, hz2⟩ := info_parts info_str
  have HI := Lib.hid hi
  have HZ0 := Lib.hid hz0
  have HZ1 := Lib.hid hz1
  have HZ2 := Lib.hid hz2
  have hop : 0 < M.old.length := List.length_pos_iff.2 ho
  clear h1 h2 hi hz0 hz1 hz2
  by_cases hy : M.young = []
  · obtain ⟨e1, e2⟩ := turn_single hinv ho (by omega) hy cnt c.toNat
    rw [e1, e2]
    have hkl := bucketK_len hinv 0 ((c.toNat % M.old.length : Nat) : Int)
    have hyz : M.young.length = 0 := by rw [hy]; rfl
    have HAF := Lib.hid (refAfter_any c (M.old.length : Int) w (by omega) (by omega))
    have HAT := Lib.hid (fun (W : World) (hf : Fr (fun _ => False) w W) => at_any W (.slice a1 M.old.length c1) M 0 M.old.length c (H1.out.fr hf) hop hol)
    rw [hyz]
    obtain ⟨A, hA⟩ : ∃ n, M.old.length = n := ⟨_, rfl⟩
    rw [hA] at HAF HAT hkl ⊢
    obtain ⟨K, hK⟩ : ∃ K, bucketK M ((0 : Nat) : Int) ((c.toNat % A : Nat) : Int) = K := ⟨_, rfl⟩
    rw [hK] at HAT
    rw [show bucketK M 0 ((c.toNat % A : Nat) : Int) = K from hK] at hkl ⊢
    have hkl2 : K.length ≤ 1099511627776 := by omega
    clear hA hK e1 e2 hkl hyz H1 H2 hop hol hyl ho
    go_enter Try.func93, Try.ntmps93
    go_wp2_with fail
    refine HAF.out.mono ?_
    rintro e w' ⟨rfl, rfl⟩
    go_wp2_with fail
    refine (HAT.out _ (Fr.alloc (fun _ => False) w _)).mono ?_
    rintro e w' ⟨⟨u, rfl, hru⟩, rfl⟩
    have HRU := Lib.hid hru
    clear hru
    obtain ⟨wq, hwq⟩ : ∃ W, w.alloc (.cells #[] 9) = W := ⟨_, rfl⟩
    have HL : Hid (wq.ownsRow w.heap.size 9 1 (.slice (some ⟨w.heap.size, 0, none⟩) 0 0) 0 []) := by rw [← hwq]; exact World.ownsRow_lit w #[] 0 (Nat.le_refl _) (by decide) rfl
    have HB : Hid (Below w.heap.size w wq) := by rw [← hwq]; exact (Below.refl _ _).alloc (Nat.le_refl _) _
    rw [hwq] at HRU ⊢
    clear hwq
    go_wp2_with (at_builtin; refine wpl_append rfl (.tmp 18) (.tmp 21) 47 rfl w.heap.size 9 i0 (.string ⟨#[]⟩) 1 16 Try.underlying47 HI.out HZ0.out HZ1.out HZ2.out rfl (by decide) _ 0 [] rfl HL.out _ K.length _ rfl HRU.out (one_strs _) (by unfold maxLen; omega) (by omega) HB.out.size ?_; intro v' w8 hown hgrow; have HO8 := Lib.hid hown; have HG8 := Lib.hid hgrow; clear hown hgrow)
    go_ret2
    refine ⟨_, rfl, rowS_app (S := []) HO8.out, HB.out.grown HG8.out HB.out.size (fun g hg => (HL.out.lt g hg).1)⟩
  · have hyp : 0 < M.young.length := List.length_pos_iff.2 hy
    have T := tabs hinv ho cnt
    obtain ⟨B, hB⟩ : ∃ B, scanT M cnt = B := ⟨_, rfl⟩
    have hG : ∀ q : Nat, B.G q = bucketK M (whichM M : Nat) (q : Int) := fun q => by rw [← hB]; rfl
    have hS : ∀ c : Nat, B.S c = if smallM M = 0 then [] else bucketK M ((1 - whichM M : Nat) : Int) ((c % smallM M : Nat) : Int) := fun q => by rw [← hB]; rfl
    rw [hB] at T ⊢
    have hg45 := great_bound (by omega) (by omega) T.great
    have hbk := fun (t i : Int) => bucketK_len hinv t i
    have hsum : ∀ q, B.r ≤ B.g → (B.S c.toNat ++ blk B.G B.g (tr B.g c.toNat) q).length ≤ 4398046511104 ∨ 2 ^ B.g < q := by
      intro q _
      by_cases hq : q ≤ 2 ^ B.g
      · left
        rw [List.length_append]
        have h3 : (B.S c.toNat).length ≤ M.n := by
          rw [hS]; split
          · simp
          · exact hbk _ _
        have h4 : (blk B.G B.g (tr B.g c.toNat) q).length ≤ M.n := by
          by_cases hpq : tr B.g c.toNat ≤ q
          · have h5 := blk_len B.G B.g (tr B.g c.toNat) q hpq
            have h6 := w_bound hinv T hq (Nat.zero_le _)
            have h7 : wG M B.g q = wt (fun i => (B.G (tr B.g i)).length) q := by
              unfold wG
              exact wt_congr _ _ _ (fun i _ => by rw [hG])
            omega
          · unfold blk
            rw [show q - tr B.g c.toNat = 0 by omega]
            simp
        omega
      · right; omega
    have hsel : ∃ (sa : Option Addr) (sc : Nat) (ga : Option Addr) (gc : Nat) (Sm Gr Wh : Nat), smallM M = Sm ∧ greatM M = Gr ∧ whichM M = Wh ∧ 0 < Sm ∧ Sm ≤ 4194304 ∧ Gr ≤ 4194304 ∧ Rows6 w (.slice sa Sm sc) M (1 - Wh) Sm ∧ Rows6 w (.slice ga Gr gc) M Wh Gr ∧
        ((M.young.length < M.old.length ∧ Value.slice sa Sm sc = .slice a2 M.young.length c2 ∧ Value.slice ga Gr gc = .slice a1 M.old.length c1) ∨ (¬ M.young.length < M.old.length ∧ Value.slice sa Sm sc = .slice a1 M.old.length c1 ∧ Value.slice ga Gr gc = .slice a2 M.young.length c2)) := by
      by_cases h : M.young.length < M.old.length
      · exact ⟨a2, c2, a1, c1, M.young.length, M.old.length, 0, by unfold smallM; rw [if_pos h], by unfold greatM; rw [if_pos h], by unfold whichM; rw [if_pos h], hyp, hyl, hol, H2.out, H1.out, .inl ⟨h, rfl, rfl⟩⟩
      · exact ⟨a1, c1, a2, c2, M.old.length, M.young.length, 1, by unfold smallM; rw [if_neg h], by unfold greatM; rw [if_neg h], by unfold whichM; rw [if_neg h], hop, hol, hyl, H1.out, H2.out, .inr ⟨h, rfl, rfl⟩⟩
    obtain ⟨sa, sc, ga, gc, Sm, Gr, Wh, hsm, hgr, hwh, hs0, hs1, hg1, hrs, hrg, hsel⟩ := hsel
    rw [hsm] at hS
    rw [hwh] at hS hG
    have hgr0 : 0 < Gr := by rw [← hgr, T.great]; exact Nat.two_pow_pos _
    have HT := Lib.hid T
    have HG := Lib.hid hG
    have HS := Lib.hid hS
    have HSM := Lib.hid hsm
    have HGR := Lib.hid hgr
    have HSUM := Lib.hid hsum
    have HATS := Lib.hid (fun (W : World) (hf : Fr (fun _ => False) w W) (c : UInt64) => at_any W (.slice sa Sm sc) M (1 - Wh) Sm c (hrs.fr hf) hs0 hs1)
    have HATG := Lib.hid (fun (W : World) (hf : Fr (fun _ => False) w W) (c : UInt64) => at_any W (.slice ga Gr gc) M Wh Gr c (hrg.fr hf) hgr0 hg1)
    obtain ⟨A, hA⟩ : ∃ n, M.old.length = n := ⟨_, rfl⟩
    obtain ⟨Y, hY⟩ : ∃ n, M.young.length = n := ⟨_, rfl⟩
    rw [hA, hY] at hsel ⊢
    rw [hY] at hyp
    have HSEL := Lib.hid hsel
    have hy0 : ((Y : Int) == 0) = false := beq_eq_false_iff_ne.2 (by omega)
    clear T hG hS hsm hgr hwh hsum hbk hrs hrg hB hsel hy ho hop hol hyl hA hY H1 H2
    go_enter Try.func93, Try.ntmps93
    go_upto_if 29 with (fail)
    go_cut [8, 9] from 23 to 31 (fun t8 t9 wc => wc = w ∧ t8 = .slice sa Sm sc ∧ t9 = .slice ga Gr gc)
    case first =>
      by_cases hlt : Y < A
      · have hs := HSEL.out.resolve_right (fun h => h.1 hlt)
        have q1 : decide (Y < A) = true := by simpa using hlt
        have E := Lib.hid hs
        clear hs
        go_wp2
        go_meet
        case rel => exact ⟨rfl, E.out.2.1.symm, E.out.2.2.symm⟩
      · have hs := HSEL.out.resolve_left (fun h => hlt h.1)
        have q1 : decide (Y < A) = false := by simpa using hlt
        have E := Lib.hid hs
        clear hs
        go_wp2
        go_meet
        case rel => exact ⟨rfl, E.out.2.1.symm, E.out.2.2.symm⟩
    case rest =>
    obtain ⟨rfl, rfl, rfl⟩ := hcut
    go_wp2_with fail
    refine (HATS.out _ (Fr.alloc (fun _ => False) wc _) c).mono ?_
    rintro e w' ⟨⟨u, rfl, hru⟩, rfl⟩
    have hS0 : bucketK M ((1 - Wh : Nat) : Int) ((c.toNat % Sm : Nat) : Int) = B.S c.toNat := by rw [HS.out, if_neg (by omega)]
    rw [hS0] at hru
    have hl0 : (B.S c.toNat).length ≤ 4398046511104 := by
      have h9 := (HSUM.out (tr B.g c.toNat) HT.out.le).resolve_right (by have := tr_lt B.g c.toNat; omega)
      rw [blk_nil, List.append_nil] at h9
      exact h9
    obtain ⟨K, hK⟩ : ∃ K, B.S c.toNat = K := ⟨_, rfl⟩
    rw [hK] at hru hl0
    have HK := Lib.hid hK
    have HRU := Lib.hid hru
    obtain ⟨wq, hwq⟩ : ∃ W, wc.alloc (.cells #[] 9) = W := ⟨_, rfl⟩
    have HL : Hid (wq.ownsRow wc.heap.size 9 1 (.slice (some ⟨wc.heap.size, 0, none⟩) 0 0) 0 []) := by rw [← hwq]; exact World.ownsRow_lit wc #[] 0 (Nat.le_refl _) (by decide) rfl
    have HB : Hid (Below wc.heap.size wc wq) := by rw [← hwq]; exact (Below.refl _ _).alloc (Nat.le_refl _) _
    rw [hwq] at HRU ⊢
    clear hwq hru hK hS0
    go_wp2_with (at_builtin; refine wpl_append rfl (.tmp 32) (.tmp 35) 47 rfl wc.heap.size 9 i0 (.string ⟨#[]⟩) 1 16 Try.underlying47 HI.out HZ0.out HZ1.out HZ2.out rfl (by decide) _ 0 [] rfl HL.out _ K.length _ rfl HRU.out (one_strs _) (by unfold maxLen; omega) (by omega) HB.out.size ?_; intro v' w8 hown hgrow; have HO8 := Lib.hid hown; have HG8 := Lib.hid hgrow; clear hown hgrow)
    obtain ⟨wl, rfl⟩ : ∃ x, x = wc := ⟨_, rfl⟩
    have HR8 : Hid (RowS wl.heap.size w8 v' K) := rowS_app (S := []) HO8.out
    have HB8 := Lib.hid (HB.out.grown HG8.out HB.out.size (fun g hg => (HL.out.lt g hg).1))
    obtain ⟨p, hp⟩ : ∃ p, tr B.g c.toNat = p := ⟨_, rfl⟩
    have HP := Lib.hid hp
    clear HO8 HG8 HL HB HRU hp HSEL
    go_loopg [2, 10] (2 ^ B.g) (fun gh t2 t10 wr => ∃ (cc : UInt64) (q : Nat), t2 = .int .u64 (wd cc) ∧ Hid (RowS wl.heap.size wr t10 (K ++ blk B.G B.g p q)) ∧ Hid (tr B.g cc.toNat = q) ∧ Hid (p ≤ q) ∧ Hid (en B.r q = en B.r p) ∧ Hid (2 ^ B.g ≤ q + gh) ∧ Hid (Below wl.heap.size wl wr))
    case atStart =>
      refine ⟨c, p, rfl, ?_, HP, Nat.le_refl p, rfl, ?_, HB8⟩
      · rw [blk_nil, List.append_nil]; exact HR8
      · show _ ≤ _; omega
    case round =>
      obtain ⟨cc, q, rfl, HR, HQ, HPQ, HEN, HGQ, HBW⟩ := hrel
      obtain ⟨v, rfl⟩ : ∃ v, v = u10 := ⟨_, rfl⟩
      obtain ⟨wo, rfl⟩ : ∃ wo, wo = wr := ⟨_, rfl⟩
      clear HR8 HB8
      have hql : q < 2 ^ B.g := by rw [← HQ.out]; exact tr_lt _ _
      have hgq : bucketK M ((Wh : Nat) : Int) ((cc.toNat % Gr : Nat) : Int) = B.G (tr B.g q) := by
        rw [HG.out, ← HQ.out, tr_tr, ← HGR.out, HT.out.great]
      have hsn : K ++ blk B.G B.g p (q + 1) = (K ++ blk B.G B.g p q) ++ B.G (tr B.g q) := by rw [blk_snoc _ _ _ _ HPQ.out, List.append_assoc]
      have hlen : ((K ++ blk B.G B.g p q) ++ B.G (tr B.g q)).length ≤ 4398046511104 := by
        rw [← hsn, ← HK.out, ← HP.out]
        exact (HSUM.out (q + 1) HT.out.le).resolve_right (by omega)
      have hat := HATG.out wo (fr_bel HBW.out) cc
      rw [hgq] at hat
      have HAT := Lib.hid hat
      obtain ⟨S, hS⟩ : ∃ S, K ++ blk B.G B.g p q = S := ⟨_, rfl⟩
      obtain ⟨U, hU⟩ : ∃ U, B.G (tr B.g q) = U := ⟨_, rfl⟩
      rw [hS] at HR hsn hlen
      rw [hU] at HAT hsn hlen
      rw [List.length_append] at hlen
      have HSN := Lib.hid hsn
      have hr0 := HR.out
      obtain ⟨va, vc, rfl⟩ := owns_slice hr0
      clear hat hgq hsn hS hU hr0
      go_wp2_with fail
      refine HAT.out.mono ?_
      rintro e w' ⟨⟨u, rfl, hru⟩, rfl⟩
      have HRU := Lib.hid hru
      clear hru
      go_wp2_with (at_builtin; refine wpl_append rfl (.tmp 37) (.tmp 40) 47 rfl wl.heap.size 9 i0 (.string ⟨#[]⟩) 1 16 Try.underlying47 HI.out HZ0.out HZ1.out HZ2.out rfl (by decide) _ S.length _ rfl HR.out _ U.length _ rfl HRU.out (one_strs _) (by unfold maxLen; omega) (by omega) HBW.out.size ?_; intro v' w9 hown hgrow; have HO9 := Lib.hid hown; have HG9 := Lib.hid hgrow; clear hown hgrow)
      have HR9 : Hid (RowS wl.heap.size w9 v' (K ++ blk B.G B.g p (q + 1))) := by
        show RowS _ _ _ _
        rw [HSN.out]; exact rowS_app HO9.out
      have HB9 := Lib.hid (HBW.out.grown HG9.out HBW.out.size (fun g hg => (HR.out.lt g hg).1))
      have HAF := Lib.hid (refAfter_any cc (Gr : Int) w9 (by omega) (by omega))
      have hlg : lg (Gr : Int) = B.g := by rw [← HGR.out, HT.out.great]; exact lg_pow B.g (by omega)
      rw [hlg] at HAF
      obtain ⟨a2', ha2⟩ : ∃ a, aft B.g cc.toNat = a := ⟨_, rfl⟩
      have hgr2 : Gr = 2 ^ B.g := by rw [← HGR.out]; exact HT.out.great
      have ha2l : a2' < Gr := by rw [hgr2, ← ha2]; exact aft_lt B.g cc.toNat
      have HA2 : Hid (a2' = if q + 1 = 2 ^ B.g then 0 else tr B.g (q + 1)) := by
        show _ = _
        rw [← ha2]; unfold aft; rw [HQ.out]
      rw [ha2] at HAF
      clear ha2 hlg HO9 HG9 HRU HAT HR
      go_wp2_with fail
      refine HAF.out.mono ?_
      rintro e w' ⟨rfl, rfl⟩
      have hd : (a2' / Sm = 0) ↔ (q + 1) % 2 ^ B.r = 0 := by
        rcases HT.out.small with ⟨e, _⟩ | ⟨t, e, hsg, er⟩
        · rw [HSM.out] at e; omega
        · have e2 : Sm = 2 ^ t := HSM.out.symm.trans e
          rw [HA2.out, e2]
          by_cases hq1 : q + 1 = 2 ^ B.g
          · rw [if_pos hq1, hq1, Nat.zero_div]
            refine ⟨fun _ => ?_, fun _ => rfl⟩
            rw [er, show 2 ^ B.g = 2 ^ (B.g - t) * 2 ^ t by rw [← Nat.pow_add, Nat.sub_add_cancel hsg]]
            exact Nat.mul_mod_right _ _
          · rw [if_neg hq1, hi_zero B.g t (q + 1) hsg, er]
      have hm1 : (a2' : Int).tmod (Gr : Int) = (a2' : Int) := by rw [← Int.ofNat_tmod, Nat.mod_eq_of_lt ha2l]
      have hm2 : (a2' : Int) % (Gr : Int) = (a2' : Int) := by
        show ((a2' % Gr : Nat) : Int) = _
        rw [Nat.mod_eq_of_lt ha2l]
      have hzl : a2' / Sm ≤ a2' := Nat.div_le_self _ _
      have ht1 : (a2' : Int).tdiv (Sm : Int) = ((a2' / Sm : Nat) : Int) := by
        rw [Int.tdiv_eq_ediv_of_nonneg (by omega)]; rfl
      have ht2 : (a2' : Int) / (Sm : Int) = ((a2' / Sm : Nat) : Int) := rfl
      obtain ⟨z, hz⟩ : ∃ z, a2' / Sm = z := ⟨_, rfl⟩
      rw [hz] at hd hzl ht1 ht2
      have hwz : IntKind.u64.wrap (z : Int) = (z : Int) := IntWalk.u64_in _ (by omega)
      have hwa : IntKind.u64.wrap (a2' : Int) = (a2' : Int) := IntWalk.u64_in _ (by omega)
      have hwg : IntKind.u64.wrap (Gr : Int) = (Gr : Int) := IntWalk.u64_in _ (by omega)
      have hws : IntKind.u64.wrap (Sm : Int) = (Sm : Int) := IntWalk.u64_in _ (by omega)
      have k1 : ((Gr : Int) == 0) = false := beq_eq_false_iff_ne.2 (by omega)
      have k2 : ((Sm : Int) == 0) = false := beq_eq_false_iff_ne.2 (by omega)
      have k3 : ¬ Gr = 0 := by omega
      have k4 : ¬ Sm = 0 := by omega
      have k5 : ¬ (Gr : Int) = 0 := by omega
      have k6 : ¬ (Sm : Int) = 0 := by omega
      have hq3 : IntKind.u64.wrap ((a2' : Int) / (Sm : Int)) = (z : Int) := by rw [ht2, hwz]
      have hU2 := u64_nat a2' (by omega)
      have HU2 := Lib.hid hU2
      have HW2 := Lib.hid (wd_nat a2' (by omega))
      clear hz hU2 hzl hgr2
      by_cases hx : (q + 1) % 2 ^ B.r = 0
      · have hz0 : z = 0 := hd.2 hx
        have heq : en B.r p = q + 1 := by rw [← HEN.out]; exact en_hit B.r q hx
        have HX1 : Hid (RowS wl.heap.size w9 v' (B.turnK c.toNat)) := by
          show RowS _ _ _ _
          unfold TB.turnK
          rw [HP.out, heq, HK.out]; exact HR9.out
        have HX2 : Hid (a2' = B.turnC c.toNat) := by
          show _ = _
          unfold TB.turnC
          rw [HP.out, heq, HA2.out]
        subst hz0
        clear hx heq hd
        go_wp2
        go_ret2
        exact ⟨_, by rw [HX2.out]; rfl, HX1.out, HB9.out⟩
      · have hz0 : ((z : Int) == 0) = false := beq_eq_false_iff_ne.2 (fun e => hx (hd.1 (by omega)))
        have hz1 : ¬ z = 0 := fun e => hx (hd.1 e)
        have hq1 : ¬ q + 1 = 2 ^ B.g := by
          intro e
          refine hx ?_
          rw [e, show 2 ^ B.g = 2 ^ (B.g - B.r) * 2 ^ B.r by rw [← Nat.pow_add, Nat.sub_add_cancel HT.out.le]]
          exact Nat.mul_mod_left _ _
        have HX1 : Hid (tr B.g (UInt64.ofNat a2').toNat = q + 1) := by
          show _ = _
          rw [HU2.out, HA2.out, if_neg hq1, tr_tr, Nat.mod_eq_of_lt (by omega)]
        have HX2 : Hid (en B.r (q + 1) = en B.r p) := by
          show _ = _
          rw [en_miss B.r q hx]; exact HEN.out
        clear hx hd
        go_wp2
        go_roundg (2 ^ B.g - (q + 1))
        case measure => have := HGQ.out; omega
        case rel =>
          refine ⟨_, q + 1, by rw [HW2.out], HR9, HX1, ?_, HX2, ?_, HB9⟩
          · show _ ≤ _; have := HPQ.out; omega
          · show _ ≤ _; omega
end Go.Proofs.Ytkecipdonamjaaa

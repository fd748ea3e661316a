/- The walk of the document's own Next: it tells what scan.Next tells. No condition. -/
import Derived.Test.YtkecipdonamjaaaScanT
namespace Go.Proofs.Ytkecipdonamjaaa
open Go.ChangeShapes Go.WideShapes Go.ChangeAt Go.RowKit Di
section
variable {α : Type}
theorem TB.turnC_cur (T : TB α) (hr : T.r ≤ T.g) (c : Nat) : T.turnC c = T.cur (tr T.g c / 2 ^ T.r + 1) ∧ tr T.g c / 2 ^ T.r + 1 ≤ T.J := by
  have hJ := T.J_mul hr
  have hpl := tr_lt T.g c
  refine ⟨?_, ?_⟩
  · unfold TB.turnC TB.cur en
    by_cases h : tr T.g c / 2 ^ T.r + 1 = T.J
    · rw [if_pos h, if_pos (by rw [h]; exact hJ)]
    · rw [if_neg h, if_neg]
      intro e
      rw [← hJ] at e
      exact h (Nat.eq_of_mul_eq_mul_right (Nat.two_pow_pos _) e)
  · show tr T.g c / 2 ^ T.r < T.J
    rw [Nat.div_lt_iff_lt_mul (Nat.two_pow_pos _), hJ]; exact hpl
/-- behind some turns: the cursor ahead of stretch j, and what has been told -/
structure NX (T : TB α) (c j : Nat) (L : List α) : Prop where
  lo : tr T.g c / 2 ^ T.r < j
  hi : j ≤ T.J
  told : L = T.turnK c ++ T.seg (tr T.g c / 2 ^ T.r + 1) j
  tie : T.nxt c [] = if T.cur j = 0 ∨ T.cnt ≤ L.length then (T.cur j, L) else T.nxt (T.cur j) L
theorem NX.start (T : TB α) (hr : T.r ≤ T.g) (c : Nat) : NX T c (tr T.g c / 2 ^ T.r + 1) (T.turnK c) := by
  obtain ⟨h1, h2⟩ := T.turnC_cur hr c
  refine ⟨Nat.lt_succ_self _, h2, by rw [T.seg_nil, List.append_nil], ?_⟩
  rw [T.nxt_eq hr, h1, List.nil_append]
theorem NX.step {T : TB α} (hr : T.r ≤ T.g) {c j : Nat} {L : List α} (h : NX T c j L) (h0 : T.cur j ≠ 0) (hl : ¬ T.cnt ≤ L.length) :
    T.turnC (T.cur j) = T.cur (j + 1) ∧ T.turnK (T.cur j) = T.turnJ j ∧ j < T.J ∧ NX T c (j + 1) (L ++ T.turnJ j) := by
  obtain ⟨hj, hc⟩ := cur_pos T hr h.hi h0
  obtain ⟨e1, e2⟩ := T.turn_at hr hj
  rw [← hc] at e1 e2
  have hs : T.seg (tr T.g c / 2 ^ T.r + 1) (j + 1) = T.seg (tr T.g c / 2 ^ T.r + 1) j ++ T.turnJ j := by
    rw [T.seg_append h.lo (Nat.le_succ j), T.seg_succ (Nat.lt_succ_self j), T.seg_nil, List.append_nil]
  refine ⟨e2, e1, hj, Nat.lt_succ_of_lt h.lo, hj, by rw [hs, h.told, List.append_assoc], ?_⟩
  rw [h.tie, if_neg (fun e => e.elim h0 hl), T.nxt_eq hr, e1, e2]
theorem NX.done {T : TB α} {c j : Nat} {L : List α} (h : NX T c j L) (hd : T.cur j = 0 ∨ T.cnt ≤ L.length) : T.nxt c [] = (T.cur j, L) := by rw [h.tie, if_pos hd]
end
theorem NX.len {M : DM} (h : Inv M) (ho : M.old ≠ []) {cnt c j : Nat} {L : List ByteArray} (hx : NX (scanT M cnt) c j L) : L.length ≤ 3 * M.n := by
  have h1 := turn_len h ho cnt c
  have h2 := seg_len h ho cnt j hx.hi
  have h3 : ((scanT M cnt).seg (tr (scanT M cnt).g c / 2 ^ (scanT M cnt).r + 1) j).length ≤ ((scanT M cnt).seg 0 j).length := by
    rw [(scanT M cnt).seg_append (Nat.zero_le (tr (scanT M cnt).g c / 2 ^ (scanT M cnt).r + 1)) hx.lo, List.length_append]
    exact Nat.le_add_left _ _
  rw [hx.told, List.length_append]
  omega
set_option maxRecDepth 100000 in
set_option maxHeartbeats 2000000 in
theorem refNext_any (w : World) (v1 v2 : Value) (M : DM) (c : UInt64) (count : Int) (hinv : Inv M) (hol : M.old.length ≤ 4194304) (hyl : M.young.length ≤ 4194304) (hn : M.n ≤ 1099511627776)
    (hcl : -9223372036854775808 ≤ count) (hch : count ≤ 9223372036854775807)
    (h1 : Rows6 w v1 M 0 M.old.length) (h2 : Rows6 w v2 M 1 M.young.length) :
    Calls Try.prog 53 #[v1, v2, .int .u64 (wd c), .int .i64 count] w fun e w' => ∃ u, e = .returned (.tuple #[.int .u64 ((scanK M c.toNat count).1 : Nat), u]) ∧ RowS w.heap.size w' u (scanK M c.toNat count).2 ∧ Below w.heap.size w w' := by
  have H1 := Lib.hid h1
  have H2 := Lib.hid h2
  by_cases ho : M.old = []
  · have hr : scanK M c.toNat count = (0, []) := by unfold scanK; rw [if_pos ho]
    have h0 : M.old.length = 0 := by rw [ho]; rfl
    rw [hr]
    obtain ⟨a1, c1, rfl⟩ := h1.slice
    obtain ⟨a2, c2, rfl⟩ := h2.slice
    rw [h0]
    clear h1 h2 H1 H2 hr h0 ho
    go_enter Try.func53, Try.ntmps53
    go_wp2
    go_ret2
    exact ⟨_, rfl, World.ownsRow_nil _ _ _ _, Below.refl _ _⟩
  · have T := tabs hinv ho (max count 1).toNat
    have hN0 := NX.start (scanT M (max count 1).toNat) T.le c.toNat
    have hdone := fun (j : Nat) (L : List ByteArray) (hx : NX (scanT M (max count 1).toNat) c.toNat j L) (hd : (scanT M (max count 1).toNat).cur j = 0 ∨ (max count 1).toNat ≤ L.length) => (show scanK M c.toNat count = ((scanT M (max count 1).toNat).cur j, L) by unfold scanK; rw [if_neg ho]; exact hx.done hd)
    have hlen := fun (j : Nat) (L : List ByteArray) (hx : NX (scanT M (max count 1).toNat) c.toNat j L) => hx.len hinv ho
    have hstep := fun (j : Nat) (L : List ByteArray) (hx : NX (scanT M (max count 1).toNat) c.toNat j L) (h0 : (scanT M (max count 1).toNat).cur j ≠ 0) (hl : ¬ (max count 1).toNat ≤ L.length) => hx.step T.le h0 hl
    have HON := Lib.hid (fun (W : World) (hf : Fr (fun _ => False) w W) (c' : UInt64) => once_any W v1 v2 M c' (max count 1).toNat hinv ho hol hyl hn (H1.out.fr hf) (H2.out.fr hf))
    have hcur : ∀ j, (scanT M (max count 1).toNat).cur j < 18446744073709551616 := fun j => by
      have e1 := TB.cur_lt (scanT M (max count 1).toNat) j
      have e2 := great_bound (by omega) (by omega) T.great
      have e3 : 2 ^ (scanT M (max count 1).toNat).g ≤ 2 ^ 45 := Nat.pow_le_pow_right (by decide) e2
      omega
    obtain ⟨ht1, _⟩ := (scanT M (max count 1).toNat).turnC_cur T.le c.toNat
    obtain ⟨B, hB⟩ : ∃ B, scanT M (max count 1).toNat = B := ⟨_, rfl⟩
    rw [hB] at hN0 hdone hlen hstep HON hcur ht1
    have HDONE := Lib.hid hdone
    have HLEN := Lib.hid hlen
    have HSTEP := Lib.hid hstep
    have HCUR := Lib.hid hcur
    have HN0 := Lib.hid hN0
    have hA0 : 0 < M.old.length := List.length_pos_iff.2 ho
    obtain ⟨a1, c1, rfl⟩ := h1.slice
    obtain ⟨a2, c2, rfl⟩ := h2.slice
    have hAz : ((M.old.length : Int) == 0) = false := beq_eq_false_iff_ne.2 (by omega)
    obtain ⟨A, hA⟩ : ∃ n, M.old.length = n := ⟨_, rfl⟩
    rw [hA] at HON hAz ⊢
    have HT1 := Lib.hid ht1
    obtain ⟨i0, hi, hz0, hz1, hz2⟩ := info_parts info_str
    have HI := Lib.hid hi
    have HZ0 := Lib.hid hz0
    have HZ1 := Lib.hid hz1
    have HZ2 := Lib.hid hz2
    clear h1 h2 H1 H2 T hN0 hdone hlen hstep hcur hB hA hol hi hz0 hz1 hz2 ht1 hA0 ho
    go_enter Try.func53, Try.ntmps53
    go_wp2_with fail
    refine (HON.out w (Fr.refl _ _) c).mono ?_
    rintro e w1 ⟨u, rfl, hru, hb1⟩
    have HRU := Lib.hid hru
    have HB1 := Lib.hid hb1
    clear hru hb1
    go_wp2_with fail
    have hst : Hid (B.turnC c.toNat = B.cur (tr B.g c.toNat / 2 ^ B.r + 1)) := HT1.out
    have HCV := Lib.hid (u64_nat _ (HCUR.out (tr B.g c.toNat / 2 ^ B.r + 1)))
    have HWV := Lib.hid (wd_nat _ (HCUR.out (tr B.g c.toNat / 2 ^ B.r + 1)))
    go_loopg [10, 11] B.J (fun gh t10 t11 wr => ∃ (cc : UInt64) (j : Nat) (L : List ByteArray), t10 = .int .u64 (wd cc) ∧ Hid (cc.toNat = B.cur j) ∧ Hid (NX B c.toNat j L) ∧ Hid (RowS w.heap.size wr t11 L) ∧ Hid (Below w.heap.size w wr) ∧ Hid (B.J ≤ j + gh))
    case atStart => exact ⟨UInt64.ofNat (B.cur (tr B.g c.toNat / 2 ^ B.r + 1)), _, _, by rw [HWV.out, hst.out], HCV.out, HN0, HRU, HB1, (Nat.le_add_left _ _ : B.J ≤ _)⟩
    case round =>
      obtain ⟨cc, j, L, rfl, HCC, HX, HR, HB, HJ⟩ := hrel
      obtain ⟨v, rfl⟩ : ∃ v, v = u11 := ⟨_, rfl⟩
      obtain ⟨wo, rfl⟩ : ∃ wo, wo = wr := ⟨_, rfl⟩
      clear HRU HB1 HCV HWV hst HN0
      have hr0 := HR.out
      obtain ⟨va, vc, rfl⟩ := owns_slice hr0
      have hL := HLEN.out j L HX.out
      obtain ⟨cn, hcn⟩ : ∃ n, cc.toNat = n := ⟨_, rfl⟩
      have hwc : wd cc = (cn : Int) := congrArg Nat.cast hcn
      rw [hcn] at HCC
      rw [hwc]
      have HWC := Lib.hid hwc
      have HCN := Lib.hid hcn
      clear hr0 hcn hwc
      by_cases hz : cn = 0
      · have hD := HDONE.out j L HX.out (.inl (HCC.out.symm.trans hz))
        rw [← HCC.out, hz] at hD
        have HD := Lib.hid hD
        subst hz
        clear hD
        go_wp2
        go_ret2
        exact ⟨_, by rw [HD.out]; rfl, by rw [HD.out]; exact HR.out, HB.out⟩
      · have q3 : ((cn : Int) != 0) = true := by rw [bne_iff_ne]; omega
        by_cases hm : max count 1 ≤ (L.length : Int)
        · have hD := HDONE.out j L HX.out (.inr (by omega))
          rw [← HCC.out] at hD
          have HD := Lib.hid hD
          have q4 : ¬ (L.length : Int) < max count 1 := by omega
          have q5 : decide ((L.length : Int) < max count 1) = false := decide_eq_false q4
          clear hD
          go_wp2
          all_goals
            go_ret2
            exact ⟨_, by rw [HD.out]; rfl, by rw [HD.out]; exact HR.out, HB.out⟩
        · obtain ⟨e1, e2, e3, e4⟩ := HSTEP.out j L HX.out (by rw [← HCC.out]; exact hz) (by omega)
          have hon := HON.out wo (fr_bel HB.out) cc
          rw [HWC.out, HCN.out, HCC.out, e1, e2, ← HCC.out] at hon
          have HN := Lib.hid hon
          have HX4 := Lib.hid e4
          have hl4 := HLEN.out (j + 1) _ e4
          obtain ⟨U, hU⟩ : ∃ U, B.turnJ j = U := ⟨_, rfl⟩
          rw [hU] at HN HX4 hl4
          rw [List.length_append] at hl4
          have HCV := Lib.hid (u64_nat _ (HCUR.out (j + 1)))
          have HWV := Lib.hid (wd_nat _ (HCUR.out (j + 1)))
          have q4 : (L.length : Int) < max count 1 := by omega
          have q5 : decide ((L.length : Int) < max count 1) = true := decide_eq_true q4
          clear hon e1 e2 e4 hU hz hm
          go_wp2_with fail
          all_goals
            refine HN.out.mono ?_
            rintro e w3 ⟨u, rfl, hru, hb3⟩
            have HR3 := Lib.hid (owns_fr HR.out (fr_bel hb3) (fun _ _ h => h))
            have HB3 := Lib.hid (HB.out.trans (hb3.mono HB.out.size))
            have HRD := Lib.hid (RdC.of_owns hru)
            clear hru hb3
            go_wp2_with (at_builtin; refine wpl_append rfl (.tmp 41) (.tmp 42) 47 rfl w.heap.size 9 i0 (.string ⟨#[]⟩) 1 16 Try.underlying47 HI.out HZ0.out HZ1.out HZ2.out rfl (by decide) _ L.length _ rfl HR3.out _ U.length _ rfl HRD.out (one_strs _) (by unfold maxLen; omega) (by omega) HB3.out.size ?_; intro v' w9 hown hgrow; have HO9 := Lib.hid hown; have HG9 := Lib.hid hgrow; clear hown hgrow)
            go_roundg (B.J - (j + 1))
            case measure => have := HJ.out; omega
            case rel => exact ⟨UInt64.ofNat (B.cur (j + 1)), j + 1, L ++ U, by rw [HWV.out], HCV.out, HX4, rowS_app HO9.out, HB3.out.grown HG9.out HB3.out.size (fun g hg => (HR3.out.lt g hg).1), (show _ ≤ _ by omega)⟩
end Go.Proofs.Ytkecipdonamjaaa

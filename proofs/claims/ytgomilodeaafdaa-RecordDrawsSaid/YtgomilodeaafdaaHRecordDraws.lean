/- RecordDraws: who is sampled. No condition. -/
import Derived.Test.YtgomilodeaafdaaBr
import Derived.Test.YtgomilodeaafdaaBa
import Derived.Deep.Cut
namespace Go.Proofs.Ytgomilodeaafdaa
open Go.ChangeShapes Go.WideShapes Go.ChangeAt Go.RowKit Ds
open Go.ChangeMaps (open_string shut_string)
/-- a text as it comes in -/
abbrev TxB := { x : ByteArray // x.size ≤ maxLen }
def txb (x : TxB) : List Value := [.string x.1]
theorem txb_len (x : TxB) : (txb x).length = 1 := rfl
theorem tx_read {H : Type} {enc : TypeId × Value → H} {w : World} {base : Nat} {held : Bool} (n : Nat) (l : List Value) (y : DataW H × List MemPlace) (h : DataW.trod enc Try.prog w base (fun _ => true) held n 9 l = some y) : ∃ x : TxB, l = txb x := by
  obtain ⟨x1, g1, _, hw1⟩ := DataW.trod_string Try.underlying9 h
  exact ⟨⟨x1, hw1⟩, g1⟩
theorem tx_flat (l : List TxB) : l.flatMap txb = (l.map (·.1)).map .string := by
  induction l with
  | nil => rfl
  | cons x l ih => rw [List.flatMap_cons, ih]; rfl
theorem sampV_at {l : List Pr} {n : UInt64} {k : Nat} {x : Pr} (h : n.toNat % l.length = k) (hx : l[k]? = some x) : sampV l n = .tuple #[.string x.1, .bool true] := by
  unfold sampV
  rw [if_neg (fun e => by rw [e] at hx; simp at hx), h, hx]
  rfl
theorem setG_ne {α : Type} {A : List (ByteArray × α)} {key : ByteArray} {x : α} : setG A key x ≠ [] := by
  unfold setG
  cases ha : fdG key A with
  | none => simp
  | some i =>
    have := fdG_lt ha
    intro e
    have h2 := congrArg List.length e
    simp at h2
    rw [h2] at this
    simp at this
set_option maxRecDepth 100000 in
set_option maxHeartbeats 4000000 in
theorem recordDraws_walk (w : World) (x0 : UInt64) (v1 : Value) (l : List TxB) (hr : RdC w 1 v1 l.length (l.flatMap txb)) (_hby : l.length * 16 ≤ reachBytes) (x2 : UInt64) :
    Calls Try.prog 4 #[.int .u64 (wd x0), v1, .int .u64 (wd x2)] w fun e w' => e = .returned (.bool true) ∧ Below w.heap.size w w' := by
  have hk1 : Fits (⟨#[97, 108, 119, 97, 121, 115]⟩, ⟨#[116, 104, 101, 114, 101]⟩) := by unfold Fits; decide
  have HK1 := Lib.hid hk1
  obtain ⟨n2, hn2⟩ : ∃ n2, x2.toNat = n2 := ⟨_, rfl⟩
  have hw2 : wd x2 = (n2 : Int) := congrArg Nat.cast hn2
  have hl2 : n2 < 18446744073709551616 := by rw [← hn2]; exact x2.toNat_lt
  have HN2 := Lib.hid hn2
  have HW2 := Lib.hid hw2
  have hll : l.length ≤ 9223372036854775807 := by have := hr.len; unfold maxLen at this; exact this
  have HR := Lib.hid hr
  obtain ⟨-, a1, c1, rfl, -⟩ := hr
  clear hk1 hn2 hw2
  rw [HW2.out]
  go_enter Try.func4, Try.ntmps4
  go_wp2_with fail
  refine (rc_new w w x0 (Below.refl _ _)).mono ?_
  rintro e w1 ⟨r, d, M0, F0, rfl, h0, -, -, -⟩
  have H0 := Lib.hid h0
  clear h0
  go_wp2_with fail
  rw [← HW2.out]
  refine (sample_any w1 _ F0 r d M0 [] x2 H0.out.rf [] (List.Perm.refl _) List.Pairwise.nil).mono ?_
  rintro e w2 ⟨rfl, hf⟩
  have H1 := Lib.hid (H0.out.quiet hf)
  rw [show sampV [] x2 = .tuple #[.string ⟨#[]⟩, .bool false] from rfl, HW2.out]
  clear hf H0
  go_wp2_with fail
  refine (rc_set w w2 0 F0 r d M0 [] _ _ H1.out HK1.out (by decide)).mono ?_
  rintro e w3 ⟨rfl, M1, h3, -, -⟩
  have hne3 : setG ([] : List Pr) ⟨#[97, 108, 119, 97, 121, 115]⟩ ⟨#[116, 104, 101, 114, 101]⟩ ≠ [] := setG_ne
  obtain ⟨A1, hA1⟩ : ∃ A1, setG ([] : List Pr) ⟨#[97, 108, 119, 97, 121, 115]⟩ ⟨#[116, 104, 101, 114, 101]⟩ = A1 := ⟨_, rfl⟩
  rw [hA1] at h3 hne3
  have H3 := Lib.hid h3
  have HNE := Lib.hid hne3
  clear h3 hne3 hA1 H1
  go_wp2_with fail
  go_loopw [10] (fun i wr => ∃ (k : Nat) (F : Nat → Prop) (M : DM) (A : List Pr), i = .int .i64 k ∧ k ≤ l.length ∧ k ≤ 500 ∧ Hid (A ≠ []) ∧ Hid (Rc (k + 1) w wr F r d M A)) (fun i _ => l.length - (intOf i).toNat)
  case atStart => exact ⟨0, _, M1, A1, rfl, by omega, by omega, HNE, H3⟩
  case round =>
    obtain ⟨k, F, M, A, rfl, hk, hk5, HNA, HD⟩ := hrel
    obtain ⟨wo, rfl⟩ : ∃ wo, wo = wr := ⟨_, rfl⟩
    clear HNE H3
    go_upto_region 9 with (fail)
    go_cut [40] from 33 to 40 (fun t wc => wc = wo ∧ t = .bool (decide (k < l.length ∧ k < 500)))
    case first =>
      by_cases h1 : k < l.length
      · by_cases h2 : k < 500
        · have hd : decide (k < l.length ∧ k < 500) = true := decide_eq_true ⟨h1, h2⟩
          have HD2 := Lib.hid hd
          have q1 : (k : Int) < (l.length : Int) := by omega
          have q2 : (k : Int) < 500 := by omega
          clear hd
          go_wp2
          go_meet
          case rel => exact ⟨rfl, by rw [HD2.out]⟩
        · have hd : decide (k < l.length ∧ k < 500) = false := decide_eq_false (fun h => h2 h.2)
          have HD2 := Lib.hid hd
          have q1 : (k : Int) < (l.length : Int) := by omega
          have q2 : ¬ (k : Int) < 500 := by omega
          clear hd
          go_wp2
          go_meet
          case rel => exact ⟨rfl, by rw [HD2.out]⟩
      · have hd : decide (k < l.length ∧ k < 500) = false := decide_eq_false (fun h => h1 h.1)
        have HD2 := Lib.hid hd
        have q1 : ¬ (k : Int) < (l.length : Int) := by omega
        clear hd
        go_wp2
        go_meet
        case rel => exact ⟨rfl, by rw [HD2.out]⟩
    case rest =>
    obtain ⟨rfl, rfl⟩ := hcut
    obtain ⟨wo, rfl⟩ : ∃ x, x = wc := ⟨_, rfl⟩
    by_cases hgo : k < l.length ∧ k < 500
    · rw [decide_eq_true hgo]
      obtain ⟨h1, h2⟩ := hgo
      obtain ⟨g1, o1, rfl, hcell⟩ := (HR.out.below HD.out.bel).at (by rw [HR.out.1]; omega)
      have cx := hcell k (.string (l[k]).1) (by rw [tx_flat, List.getElem?_map, List.getElem?_map, List.getElem?_eq_getElem h1]; rfl)
      obtain ⟨x, hx⟩ : ∃ x, l[k] = x := ⟨_, rfl⟩
      rw [hx] at cx
      obtain ⟨x, hxs⟩ := x
      dsimp only at cx
      clear hcell hx
      by_cases hfx : Fits (x, ⟨#[120]⟩)
      · have HFX := Lib.hid hfx
        clear hfx
        go_wp2_with fail
        refine (rc_set w wo (k + 1) F r d M A x _ HD.out HFX.out (by omega)).mono ?_
        rintro e w4 ⟨rfl, M', h4, -, -⟩
        have H4 := Lib.hid h4
        have HN4 : Hid (setG A x ⟨#[120]⟩ ≠ []) := setG_ne
        clear h4
        go_wp2_with fail
        go_roundw
        case rel => exact ⟨k + 1, _, M', _, by go_num, by omega, by omega, HN4, H4⟩
        case measure => simp [intOf]; omega
      · go_wp2_with fail
        refine (recSet_long wo r x _ hxs (by decide) hfx).mono ?_
        rintro e w4 ⟨rfl, rfl⟩
        have H4 := Lib.hid (HD.out.mono (Nat.le_succ _))
        go_wp2_with fail
        go_roundw
        case rel => exact ⟨k + 1, F, M, A, by go_num, by omega, by omega, HNA, H4⟩
        case measure => simp [intOf]; omega
    · rw [decide_eq_false hgo]
      clear hgo
      go_wp2_with fail
      refine (pairs_any wo _ F r d M A HD.out.rf).mono ?_
      rintro e w5 ⟨v, lp, rfl, q1, q2, q3, q4⟩
      have H5 := Lib.hid (HD.out.quiet q4)
      have Q1 := Lib.hid q1
      have Q2 := Lib.hid q2
      have hll2 := q1.length_eq
      rw [← hll2] at q3
      obtain ⟨va, vc, rfl⟩ := ow_sliceN q3
      have Q3 : Hid (w5.ownsRow w.heap.size 51 2 (.slice va lp.length vc) lp.length (lp.flatMap encP)) := ow_base q3 HD.out.bel.size
      have hlp : lp.length ≤ 501 := by rw [hll2]; have := HD.out.few; omega
      have hlp0 : 0 < lp.length := by rw [hll2]; exact List.length_pos_iff.2 HNA.out
      have HLL := Lib.hid hll2
      have hlen := recLen_any w5 _ F r d M A H5.out.rf
      rw [← hll2] at hlen
      have HLEN := Lib.hid hlen
      have q0 : ((lp.length : Int) == 0) = false := beq_eq_false_iff_ne.2 (by omega)
      have g0 : ((lp.length : Int) != (lp.length : Int)) = false := by simp
      clear q1 q2 q3 q4 hll2 hlen HD HNA HR
      go_wp2_with fail
      refine HLEN.out.mono ?_
      rintro e w' ⟨rfl, rfl⟩
      go_wp2_with fail
      go_loopw [12] (fun i wr => ∃ (k : Nat), i = .int .i64 k ∧ k ≤ lp.length ∧ Hid (Fr (fun _ => False) w5 wr)) (fun i _ => lp.length - (intOf i).toNat)
      case atStart => exact ⟨0, rfl, by omega, Fr.refl _ _⟩
      case round =>
        obtain ⟨j, rfl, hj, HF⟩ := hrel
        have HJ := Lib.hid (H5.out.quiet HF.out)
        obtain ⟨wo, rfl⟩ : ∃ wo, wo = wr := ⟨_, rfl⟩
        by_cases hlt : j < lp.length
        · have hs := sample_any wo _ F r d M A (UInt64.ofNat j) HJ.out.rf lp Q1.out Q2.out
          rw [wd_nat j (by omega), sampV_at (k := j) (x := lp[j]) (by rw [u64_nat j (by omega)]; exact Nat.mod_eq_of_lt hlt) (List.getElem?_eq_getElem hlt)] at hs
          obtain ⟨x, hx⟩ : ∃ x, lp[j] = x := ⟨_, rfl⟩
          rw [hx] at hs
          have HS := Lib.hid hs
          have HX := Lib.hid hx
          have e1 : IntKind.u64.wrap (j : Int) = (j : Int) := IntWalk.u64_in _ (by omega)
          clear hs hx
          go_wp2_with fail
          refine HS.out.mono ?_
          rintro e w6 ⟨rfl, hf6⟩
          have HF6 := Lib.hid (HF.out.trans hf6 (fun _ h _ => h))
          obtain ⟨g, off, rfl, cx, -⟩ := pr_at (RdC.of_owns (ow_fr Q3.out HF6.out (fun _ _ h => h))) j hlt
          rw [HX.out] at cx
          obtain ⟨x1, x2'⟩ := x
          dsimp only at cx ⊢
          have hq : (x1.toList == x1.toList) = true := by simp
          have hq2 : (x1.toList != x1.toList) = false := by simp
          clear hf6
          go_wp2_with fail
          go_roundw
          case rel => exact ⟨j + 1, by go_num, by omega, HF6⟩
          case measure => simp [intOf]; omega
        · obtain rfl : j = lp.length := by omega
          have hkm : n2 % lp.length < lp.length := Nat.mod_lt _ hlp0
          obtain ⟨k2, hk2⟩ : ∃ k2, n2 % lp.length = k2 := ⟨_, rfl⟩
          rw [hk2] at hkm
          have hs := sample_any wo _ F r d M A x2 HJ.out.rf lp Q1.out Q2.out
          rw [sampV_at (k := k2) (x := lp[k2]) (by rw [HN2.out]; exact hk2) (List.getElem?_eq_getElem hkm), HW2.out] at hs
          obtain ⟨x, hx⟩ : ∃ x, lp[k2] = x := ⟨_, rfl⟩
          rw [hx] at hs
          have HS := Lib.hid hs
          have HX := Lib.hid hx
          clear hs hx
          go_wp2_with fail
          refine HS.out.mono ?_
          rintro e w6 ⟨rfl, hf6⟩
          have HF6 := Lib.hid (HF.out.trans hf6 (fun _ h _ => h))
          have HB6 := Lib.hid (H5.out.quiet HF6.out).bel
          obtain ⟨g, off, rfl, cx, -⟩ := pr_at (RdC.of_owns (ow_fr Q3.out HF6.out (fun _ _ h => h))) k2 hkm
          rw [HX.out] at cx
          obtain ⟨x1, x2'⟩ := x
          dsimp only at cx ⊢
          have hq : (x1.toList == x1.toList) = true := by simp
          have e1 : IntKind.u64.wrap (lp.length : Int) = (lp.length : Int) := IntWalk.u64_in _ (by omega)
          have b0 : (0 : Int) ≤ (n2 : Int) % (lp.length : Int) := by omega
          have b1 : (n2 : Int) % (lp.length : Int) < (lp.length : Int) := by omega
          have e3 : IntKind.i64.wrap ((n2 : Int) % (lp.length : Int)) = (k2 : Int) := by
            have : (n2 : Int) % (lp.length : Int) = ((n2 % lp.length : Nat) : Int) := rfl
            rw [this, hk2, IntWalk.i64_in _ (by omega)]
          clear hf6 hk2
          go_wp2_with fail
          go_ret
          exact ⟨by simp, HB6.out⟩
set_option maxRecDepth 100000 in
theorem recordDraws_lifted (os : Os) (started : os.Started) (H : Type) (enc : TypeId × Value → H) :
    ReturnsInHanded {} Try.checked os 4 .any (Rows.recordDrawsSpec.pre6 enc Try.prog Try.f4 Rows.recordDrawsRow.domain false) (Rows.recordDrawsSpec.post enc Try.prog Try.f4 false true false false) := by
  refine returnsInHanded_of_change_sized (C := Try.checked) own started (by kernel_rfl) Try.func4
    (ChangeSpec.witness6 (enc := enc) (C := Try.checked) false ⟨#[], #[.int .u64 0, .slice none 0 0, .int .u64 0], []⟩ 8 (by kernel_rfl) (by kernel_rfl) (by kernel_rfl) (by kernel_rfl)) ?_
  intro W base args ds gs before hval0 hW hcnd hsz0 _
  have hval : ∀ (j : Nat) t v, Try.f4.params[j]? = some t → args[j]? = some v → Value.okWide Try.prog W .any base t v := hval0
  have hW' := hW
  obtain ⟨p, q, hA0, hV, rfl, hfz, hnd⟩ := hW
  have hA : DataW.TrodAll enc Try.prog W 0 (fun _ => true) true Try.f4.params.toList args.toList ds p := hA0
  rw [Try.params4] at hA hval
  obtain ⟨v0, vs0, d0, ds0, p0, q0, hargs, rfl, rfl, h0, r0⟩ := trodAll_cons hA
  obtain ⟨v1, vs1, d1, ds1, p1, q1, rfl, rfl, rfl, h1, r1⟩ := trodAll_cons r0
  obtain ⟨v2, vs2, d2, ds2, p2, q2, rfl, rfl, rfl, h2, r2⟩ := trodAll_cons r1
  obtain ⟨rfl, rfl, rfl⟩ := trodAll_nil r2
  obtain rfl : args = #[v0, v1, v2] := by cases args; simp_all
  obtain ⟨rfl, rfl⟩ := trodVars_none hV
  have hsz : (DataW.weightsEach Try.prog [22, 39, 22] [d0, d1, d2]).all (fun x => decide (x ≤ reachBytes)) = true := by
    have h := hsz0
    simp only [List.append_nil] at h
    have e : (Try.f4.params.toList ++ DataSpec.varTypes Try.checked.prog Rows.recordDrawsSpec.plain) = [22, 39, 22] := by kernel_rfl
    rw [e] at h; exact h
  clear hsz0
  obtain ⟨hw0, hsz0⟩ := weights_cons hsz
  obtain ⟨x0, rfl⟩ := open_word Try.underlying22 (hval 0 22 v0 rfl rfl) h0
  obtain ⟨hw1, hsz1⟩ := weights_cons hsz0
  obtain ⟨l1, hr1, hb1⟩ := open_list txb txb_len Try.underlying39 (by kernel_rfl) tx_read (hval 1 39 v1 rfl rfl) h1
  have hby1 : l1.length * 16 ≤ reachBytes := by
    have e : Try.prog.bytesOf 9 = 16 := by kernel_rfl
    rw [← e]; exact hb1 _ hw1
  obtain ⟨hw2, hsz2⟩ := weights_cons hsz1
  obtain ⟨x2, rfl⟩ := open_word Try.underlying22 (hval 2 22 v2 rfl rfl) h2
  clear hA0 hval0
  refine (recordDraws_walk W x0 v1 l1 hr1 hby1 x2).mono fun e W' ⟨he, bel⟩ => ?_
  subst he
  exact ⟨_, rfl, law_post laidOut Try.underlying4 (by kernel_rfl) rfl (by kernel_rfl) hW' rfl bel⟩

theorem recordDraws_holds : Rows.RecordDrawsSaid :=
  OpenClaim.holds_of_wide 4 Try.f4 rfl rfl rfl rfl rfl rfl rfl ⟨rfl, rfl, rfl, rfl, rfl⟩ rfl rfl rfl rfl rfl (by kernel_rfl) Try.func4 (by kernel_rfl)
    (of_decide_eq_true (by kernel_rfl)) (by unfold Func.isWrapper; rw [if_neg (of_decide_eq_false (by kernel_rfl))]; exact ⟨rfl, rfl⟩)
    (fun os started H enc _ => recordDraws_lifted os started H enc)
end Go.Proofs.Ytgomilodeaafdaa

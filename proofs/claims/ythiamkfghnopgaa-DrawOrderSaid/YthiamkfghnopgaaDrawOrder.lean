/- DrawOrder: the numbers come in their order, each once, behind the end noughts; Below takes one each time. No condition. -/
import Derived.Test.YthiamkfghnopgaaDrawWakes
import Derived.Test.YthiamkfghnopgaaWrap
namespace Go.Proofs.Ythiamkfghnopgaa
open Go.RowKit

/-- one number of a slice that is read, as the walk spells it -/
theorem word_at {w : World} {a : Option Addr} {n cap k : Nat} {l : List UInt64} (h : RdC w 1 (.slice a n cap) n (l.map u64)) (hk : k < l.length) :
    ∃ g off, a = some ⟨g, off, none⟩ ∧ w.cell? ⟨g, off + k, none⟩ = some (.int .u64 (wd l[k])) := by
  obtain ⟨g, off, rfl, hc⟩ := h.at (by simp; omega)
  exact ⟨g, off, rfl, hc k (u64 l[k]) (by rw [List.getElem?_map, List.getElem?_eq_getElem hk]; rfl)⟩
theorem word_cell {w : World} {g off n cap k : Nat} {l : List UInt64} (h : RdC w 1 (.slice (some ⟨g, off, none⟩) n cap) n (l.map u64)) (hk : k < l.length) : w.cell? ⟨g, off + k, none⟩ = some (.int .u64 (wd l[k])) := by
  obtain ⟨g', off', e, hc⟩ := word_at h hk
  cases e
  exact hc
theorem hd_drop (l : List UInt64) (k : Nat) (hk : k < l.length) : hd0 (l.drop k) = l[k] := by
  rw [List.drop_eq_getElem_cons hk]; rfl
theorem hd_end (l : List UInt64) (k : Nat) (hk : ¬ k < l.length) : hd0 (l.drop k) = 0 := by
  rw [List.drop_eq_nil_of_le (by omega)]; rfl
theorem below_zero (b : UInt64) : wd (below0 0 b) = 0 := by
  unfold below0
  split
  · rfl
  · unfold wd; rw [UInt64.toNat_mod]; show ((0 % b.toNat : Nat) : Int) = 0; simp
theorem below_lt (x n : UInt64) (h : n ≠ 0) : wd (below0 x n) < wd n := by
  unfold below0 wd; rw [if_neg h]
  have h0 : n.toNat ≠ 0 := fun e => h (UInt64.toNat_inj.1 e)
  rw [UInt64.toNat_mod]
  have := Nat.mod_lt x.toNat (show 0 < n.toNat by omega)
  omega
theorem below_le (x n : UInt64) (h : n ≠ 0) : wd (below0 x n) ≤ wd x := by
  unfold below0 wd; rw [if_neg h, UInt64.toNat_mod]
  have := Nat.mod_le x.toNat n.toNat
  omega
theorem below_sub (x n : UInt64) (h : n ≠ 0) : (IntKind.u64.wrap (wd x - wd (below0 x n))).tmod (wd n) = 0 := by
  have h1 := below_le x n h
  have h2 := wd_lt x
  have h3 := wd_nonneg (below0 x n)
  rw [IntKind.wrap_u64, Int.emod_eq_of_lt (by omega) (by omega), Int.tmod_eq_emod_of_nonneg (by omega)]
  unfold below0 wd; rw [if_neg h, UInt64.toNat_mod]
  have e := Nat.mod_add_div x.toNat n.toNat
  have : ((x.toNat : Int) - ((x.toNat % n.toNat : Nat) : Int)) = (n.toNat : Int) * ((x.toNat / n.toNat : Nat) : Int) := by
    rw [← Int.natCast_mul]; omega
  rw [this]
  exact Int.mul_emod_right _ _

theorem left_lit (w : World) (p : Nat) (l : List UInt64) (S : Nat → Prop) (y : Int) (h : SrcAt w p l S) (hy : (l.length : Int) = y) :
    Calls Try.prog 17 #[.pointer (some ⟨p, 0, none⟩)] w fun e w' => e = .returned (.int .i64 y) ∧ w = w' := by
  subst hy; exact left_any w p l S h
set_option maxRecDepth 100000 in
set_option maxHeartbeats 2000000 in
theorem drawOrder_walk (w : World) (v0 : Value) (l : List UInt64) (hr0 : RdC w 1 v0 l.length (l.flatMap fun u => [u64 u])) (hb0 : l.length * 8 ≤ reachBytes) (v1 : Value) (m : List UInt64)
    (hr1 : RdC w 1 v1 m.length (m.flatMap fun u => [u64 u])) (hb1 : m.length * 8 ≤ reachBytes) :
    Calls Try.prog 7 #[v0, v1] w fun e w' => e = .returned (.bool true) ∧ Below w.heap.size w w' := by
  rw [word_flat] at hr0 hr1
  unfold reachBytes at hb0 hb1
  have H0 := Lib.hid hr0
  have H1 := Lib.hid hr1
  obtain ⟨-, a0, c0, rfl, -⟩ := hr0
  obtain ⟨-, a1, c1, rfl, -⟩ := hr1
  go_enter Try.func7, Try.ntmps7
  go_wp2_with (go_at_call 20; refine (wakes_any _).mono ?_; rintro e w1 ⟨rfl, hbel⟩)
  refine (new_any _ l _ (H0.out.below hbel) (by omega)).mono ?_
  rintro e w2 ⟨p, rfl, hsrc, hb2⟩
  have B2 := hbel.trans (hb2.mono hbel.size)
  have hp : w.heap.size ≤ p := by have := hbel.size; obtain ⟨_, _, _, hS, _⟩ := hsrc; have := hS.1; omega
  obtain ⟨S, hSdef⟩ : ∃ S : Nat → Prop, S = fun k => w1.heap.size ≤ k ∧ k < w2.heap.size := ⟨_, rfl⟩
  rw [← hSdef] at hsrc
  clear hb2 hSdef
  go_wp2_with fail
  go_loopw [6] (fun i wr => ∃ k : Nat, k ≤ l.length + 3 ∧ i = .int .i64 k ∧ SrcAt wr p (l.drop k) S ∧ Below w.heap.size w wr) (fun i _ => l.length + 3 - (intOf i).toNat)
  case atStart => exact ⟨0, by omega, rfl, hsrc, B2⟩
  case round =>
    obtain ⟨k, hk, rfl, hsrck, hbelk⟩ := hrel
    clear hsrc B2 hbel
    by_cases hlt : k < l.length + 3
    case neg =>
      go_wp2_with fail
      go_ret
      exact ⟨rfl, hbelk⟩
    by_cases hkl : k < l.length
    · obtain ⟨g0, off0, rfl, hc0⟩ := word_at (H0.out.below hbelk) hkl
      have hhd := hd_drop l k hkl
      by_cases hkm : k < m.length
      · obtain ⟨g1, off1, rfl, hc1⟩ := word_at (H1.out.below hbelk) hkm
        obtain ⟨b, hb⟩ : ∃ b, m[k] = b := ⟨_, rfl⟩
        obtain ⟨q, hq⟩ : ∃ q, l[k] = q := ⟨_, rfl⟩
        rw [hb] at hc1
        rw [hq] at hc0 hhd
        have HB := Lib.hid hb; clear hb
        have HQ := Lib.hid hq; clear hq
        have HD := Lib.hid hhd; clear hhd
        by_cases hz : b = 0
        · subst hz
          have hz0 : (wd 0 == 0) = true := rfl
          go_wp2_with fail
          refine (below_lit _ p _ _ 0 0 S hsrck rfl (by simp [below0]; rfl)).mono ?_
          rintro e w3 ⟨rfl, hsrc2, hfr⟩
          rw [List.tail_drop] at hsrc2
          have hbk2 := hbelk.trans (hfr.below (B := w.heap.size) hbelk.size (fun i hi => by omega))
          clear hsrck hfr
          have hc1' := word_cell (H1.out.below hbk2) hkm
          rw [HB.out] at hc1'
          have hw0 : wd 0 = 0 := rfl
          go_wp2_with fail
          refine (left_lit _ p _ S ((l.length : Int) - k - 1) hsrc2 (by simp; omega)).mono ?_
          rintro e w4 ⟨rfl, rfl⟩
          go_wp2_with fail
          go_roundw
          case rel => exact ⟨k + 1, by omega, by go_num, hsrc2, hbk2⟩
          case measure => simp [intOf]; omega
        · have e1 : (wd b == 0) = false := beq_eq_false_iff_ne.2 (fun h => hz (wd_inj h))
          have e2 : 0 < wd b := by have := wd_nonneg b; have : wd b ≠ 0 := fun h => hz (wd_inj h); omega
          have e3 := below_lt q b hz
          have e4 := below_le q b hz
          have e5 := below_sub q b hz
          go_wp2_with fail
          refine (below_lit _ p _ _ (wd (below0 q b)) b S hsrck rfl (by rw [HD.out])).mono ?_
          rintro e w3 ⟨rfl, hsrc2, hfr⟩
          rw [List.tail_drop] at hsrc2
          have hbk2 := hbelk.trans (hfr.below (B := w.heap.size) hbelk.size (fun i hi => by omega))
          clear hsrck hfr
          have hc1' := word_cell (H1.out.below hbk2) hkm
          rw [HB.out] at hc1'
          go_wp2_with fail
          refine (left_lit _ p _ S ((l.length : Int) - k - 1) hsrc2 (by simp; omega)).mono ?_
          rintro e w4 ⟨rfl, rfl⟩
          go_wp2_with fail
          go_roundw
          case rel => exact ⟨k + 1, by omega, by go_num, hsrc2, hbk2⟩
          case measure => simp [intOf]; omega
      · obtain ⟨q, hq⟩ : ∃ q, l[k] = q := ⟨_, rfl⟩
        rw [hq] at hc0 hhd
        have HQ := Lib.hid hq; clear hq
        have HD := Lib.hid hhd; clear hhd
        go_wp2_with fail
        refine (next_lit _ p _ (wd q) S hsrck (by rw [HD.out])).mono ?_
        rintro e w3 ⟨rfl, hsrc2, hfr⟩
        rw [List.tail_drop] at hsrc2
        have hbk2 := hbelk.trans (hfr.below (B := w.heap.size) hbelk.size (fun i hi => by omega))
        clear hsrck hfr
        go_wp2_with fail
        refine (left_lit _ p _ S ((l.length : Int) - k - 1) hsrc2 (by simp; omega)).mono ?_
        rintro e w4 ⟨rfl, rfl⟩
        go_wp2_with fail
        go_roundw
        case rel => exact ⟨k + 1, by omega, by go_num, hsrc2, hbk2⟩
        case measure => simp [intOf]; omega
    · have HD := Lib.hid (hd_end l k hkl)
      by_cases hkm : k < m.length
      · obtain ⟨g1, off1, rfl, hc1⟩ := word_at (H1.out.below hbelk) hkm
        obtain ⟨b, hb⟩ : ∃ b, m[k] = b := ⟨_, rfl⟩
        rw [hb] at hc1
        have HB := Lib.hid hb; clear hb
        have hy : wd (below0 0 b) = 0 := below_zero b
        by_cases hz : b = 0
        case' pos =>
          subst hz
          have hz0 : (wd 0 == 0) = true := rfl
        case' neg =>
          have e1 : (wd b == 0) = false := beq_eq_false_iff_ne.2 (fun h => hz (wd_inj h))
          have e2 : 0 < wd b := by have := wd_nonneg b; have : wd b ≠ 0 := fun h => hz (wd_inj h); omega
        all_goals
          have HY := Lib.hid hy; clear hy
          go_wp2_with fail
          refine (below_lit _ p _ _ 0 _ S hsrck rfl (by rw [HD.out]; exact HY.out)).mono ?_
          rintro e w3 ⟨rfl, hsrc2, hfr⟩
          rw [List.tail_drop] at hsrc2
          have hbk2 := hbelk.trans (hfr.below (B := w.heap.size) hbelk.size (fun i hi => by omega))
          clear hsrck hfr
          have hc1' := word_cell (H1.out.below hbk2) hkm
          rw [HB.out] at hc1'
          have hw0 : wd 0 = 0 := rfl
          go_wp2_with fail
          refine (left_lit _ p _ S 0 hsrc2 (by simp; omega)).mono ?_
          rintro e w4 ⟨rfl, rfl⟩
          go_wp2_with fail
          go_roundw
          case rel => exact ⟨k + 1, by omega, by go_num, hsrc2, hbk2⟩
          case measure => simp [intOf]; omega
      · go_wp2_with fail
        refine (next_lit _ p _ 0 S hsrck (by rw [HD.out]; rfl)).mono ?_
        rintro e w3 ⟨rfl, hsrc2, hfr⟩
        rw [List.tail_drop] at hsrc2
        have hbk2 := hbelk.trans (hfr.below (B := w.heap.size) hbelk.size (fun i hi => by omega))
        clear hsrck hfr
        go_wp2_with fail
        refine (left_lit _ p _ S 0 hsrc2 (by simp; omega)).mono ?_
        rintro e w4 ⟨rfl, rfl⟩
        go_wp2_with fail
        go_roundw
        case rel => exact ⟨k + 1, by omega, by go_num, hsrc2, hbk2⟩
        case measure => simp [intOf]; omega

open Go.ChangeShapes Go.WideShapes Go.ChangeAt Go.RowKit
set_option maxRecDepth 100000 in
theorem drawOrder_lifted (os : Os) (started : os.Started) (H : Type) (enc : TypeId × Value → H) :
    ReturnsInHanded {} Try.checked os 7 .any (Rows.drawOrderSpec.pre6 enc Try.prog Try.f7 Rows.drawOrderRow.domain false) (Rows.drawOrderSpec.post enc Try.prog Try.f7 false true false false) := by
  refine returnsInHanded_of_change_sized (C := Try.checked) own started (by kernel_rfl) Try.func7
    (ChangeSpec.witness6 (enc := enc) (C := Try.checked) false ⟨#[], #[.slice none 0 0, .slice none 0 0], []⟩ 8 (by kernel_rfl) (by kernel_rfl) (by kernel_rfl) (by kernel_rfl)) ?_
  intro W base args ds gs before hval0 hW hcnd hsz0 _
  have hval : ∀ (j : Nat) t v, Try.f7.params[j]? = some t → args[j]? = some v → Value.okWide Try.prog W .any base t v := hval0
  have hW' := hW
  obtain ⟨p, q, hA0, hV, rfl, hfz, hnd⟩ := hW
  have hA : DataW.TrodAll enc Try.prog W 0 (fun _ => true) true Try.f7.params.toList args.toList ds p := hA0
  rw [Try.params7] at hA hval
  obtain ⟨v0, vs0, d0, ds0, p0, q0, hargs, rfl, rfl, h0, r0⟩ := trodAll_cons hA
  obtain ⟨v1, vs1, d1, ds1, p1, q1, rfl, rfl, rfl, h1, r1⟩ := trodAll_cons r0
  obtain ⟨rfl, rfl, rfl⟩ := trodAll_nil r1
  obtain rfl : args = #[v0, v1] := by cases args; simp_all
  obtain ⟨rfl, rfl⟩ := trodVars_none hV
  have hsz : (DataW.weightsEach Try.prog [28, 28] [d0, d1]).all (fun x => decide (x ≤ reachBytes)) = true := by
    have h := hsz0
    simp only [List.append_nil] at h
    have e : (Try.f7.params.toList ++ DataSpec.varTypes Try.checked.prog Rows.drawOrderSpec.plain) = [28, 28] := by kernel_rfl
    rw [e] at h; exact h
  clear hsz0
  obtain ⟨hw0, hsz0⟩ := weights_cons hsz
  obtain ⟨l0, hr0, hb0⟩ := open_list (fun u => [u64 u]) (fun _ => rfl) Try.underlying28 (by kernel_rfl) (word_cells Try.underlying22) (hval 0 28 v0 rfl rfl) h0
  have hby0 : l0.length * 8 ≤ reachBytes := by
    have e : Try.prog.bytesOf 22 = 8 := by kernel_rfl
    rw [← e]; exact hb0 _ hw0
  obtain ⟨hw1, hsz1⟩ := weights_cons hsz0
  obtain ⟨l1, hr1, hb1⟩ := open_list (fun u => [u64 u]) (fun _ => rfl) Try.underlying28 (by kernel_rfl) (word_cells Try.underlying22) (hval 1 28 v1 rfl rfl) h1
  have hby1 : l1.length * 8 ≤ reachBytes := by
    have e : Try.prog.bytesOf 22 = 8 := by kernel_rfl
    rw [← e]; exact hb1 _ hw1
  clear hA0 hval0
  refine (drawOrder_walk W v0 l0 hr0 hby0 v1 l1 hr1 hby1).mono fun e W' ⟨he, bel⟩ => ?_
  subst he
  exact ⟨_, rfl, law_post laidOut Try.underlying4 (by kernel_rfl) rfl (by kernel_rfl) hW' rfl bel⟩

theorem drawOrder_holds : Rows.DrawOrderSaid :=
  OpenClaim.holds_of_wide 7 Try.f7 rfl rfl rfl rfl rfl rfl rfl ⟨rfl, rfl, rfl, rfl, rfl⟩ rfl rfl rfl rfl rfl (by kernel_rfl) Try.func7 (by kernel_rfl)
    (of_decide_eq_true (by kernel_rfl)) (by unfold Func.isWrapper; rw [if_neg (of_decide_eq_false (by kernel_rfl))]; exact ⟨rfl, rfl⟩)
    (fun os started H enc _ => drawOrder_lifted os started H enc)
end Go.Proofs.Ythiamkfghnopgaa

/- ScanRound: from 0 on the cursors of a table come up each once, and then 0. No condition. -/
import Derived.Test.YtkecipdonamjaaaScanW
import Derived.Test.YtkecipdonamjaaaWrap
import Derived.Test.YtkecipdonamjaaaScanAfters
import Derived.Test.YtkecipdonamjaaaMake
import Derived.Deep.QuietTactic
import Derived.BigQuiet
import Derived.Deep.Light
import Derived.Deep.Cut
namespace Go.Proofs.Ytkecipdonamjaaa
open Go.ChangeShapes Go.WideShapes Go.ChangeAt Go.RowKit
open Go.ChangeMaps (open_string shut_string)

theorem lg_pow (k : Nat) (h : k ≤ 62) : lg (2 ^ k : Nat) = k := lg_of _ k h (.inl (Int.le_refl _)) (by have := Nat.two_pow_pos k; omega)
theorem tr_low (k l x : Nat) (hl : l ≤ k) : tr k x % 2 ^ l = tr l (x / 2 ^ (k - l)) := by
  have e : x = 2 ^ (k - l) * (x / 2 ^ (k - l)) + x % 2 ^ (k - l) := (Nat.div_add_mod _ _).symm
  have h := tr_add (k - l) l (x % 2 ^ (k - l)) (x / 2 ^ (k - l)) (Nat.mod_lt _ (Nat.two_pow_pos _))
  rw [← e, Nat.sub_add_cancel hl] at h
  rw [h, Nat.mul_add_mod, Nat.mod_eq_of_lt (tr_lt _ _)]
theorem side (k l j : Nat) (hl : l ≤ k) : (j + 1) % 2 ^ (k - l) = 0 ∨ (if j + 1 = 2 ^ k then 0 else tr k (j + 1)) % 2 ^ l = tr k j % 2 ^ l := by
  by_cases h : (j + 1) % 2 ^ (k - l) = 0
  · exact .inl h
  · refine .inr ?_
    have hn : ¬ j + 1 = 2 ^ k := by
      intro e
      refine h ?_
      rw [e, show 2 ^ k = 2 ^ (k - l) * 2 ^ l by rw [← Nat.pow_add, Nat.sub_add_cancel hl]]
      exact Nat.mul_mod_right _ _
    rw [if_neg hn, tr_low k l _ hl, tr_low k l _ hl]
    congr 1
    rw [Nat.succ_div, if_neg (fun hd => h (Nat.mod_eq_zero_of_dvd hd)), Nat.add_zero]
theorem tr_inj (k a b : Nat) (ha : a < 2 ^ k) (hb : b < 2 ^ k) (h : tr k a = tr k b) : a = b := by
  have := congrArg (tr k) h
  rwa [tr_tr, tr_tr, Nat.mod_eq_of_lt ha, Nat.mod_eq_of_lt hb] at this
theorem heap_drewN (w : World) (n : Nat) : (w.drewN n).heap = w.heap := rfl
set_option maxRecDepth 100000 in
set_option maxHeartbeats 1000000 in
theorem scanRound_walk (w : World) (a : Int) (lo1 : -9223372036854775808 ≤ a) (hi1 : a ≤ 9223372036854775807) (b : Int) (lo2 : -9223372036854775808 ≤ b) (hi2 : b ≤ 9223372036854775807) :
    Calls Try.prog 4 #[.int .i64 a, .int .i64 b] w fun e w' => e = .returned (.bool true) ∧ Below w.heap.size w w' := by
  go_enter Try.func4, Try.ntmps4
  go_step
  go_step
  go_cut [4] from 11 (fun _ wc => wc = w)
  case first =>
    go_wp2
    go_meet
    case rel => rfl
  case rest =>
  subst hcut
  go_step
  go_step
  go_cut [0] from 11 (fun s0 wc' => wc' = wc ∧ ∃ k : Nat, k ≤ 12 ∧ s0 = .int .i64 k)
  case first =>
    by_cases ha : a < 0
    · go_wp2
      go_meet
      case rel => exact ⟨rfl, 5, by decide, rfl⟩
    · by_cases ha2 : 12 < a
      · go_wp2
        go_meet
        case rel => exact ⟨rfl, 5, by decide, rfl⟩
      · go_wp2
        go_meet
        case rel => exact ⟨rfl, a.toNat, by omega, by go_num⟩
  case rest =>
  obtain ⟨hwc, k, hk, hs0⟩ := hcut
  subst hwc
  subst hs0
  go_step
  go_step
  go_cut [1] from 11 (fun s1 wc' => wc' = wc ∧ ∃ l : Nat, l ≤ k ∧ s1 = .int .i64 l)
  case first =>
    by_cases hb : b < 0
    · go_wp2
      go_meet
      case rel => exact ⟨rfl, k / 2, by omega, by go_num⟩
    · by_cases hb2 : (k : Int) < b
      · go_wp2
        go_meet
        case rel => exact ⟨rfl, k / 2, by omega, by go_num⟩
      · go_wp2
        go_meet
        case rel => exact ⟨rfl, b.toNat, by omega, by go_num⟩
  case rest =>
    obtain ⟨hwc, l, hl, hs1⟩ := hcut
    subst hwc
    subst hs1
    clear lo1 hi1 lo2 hi2
    obtain ⟨n, hn⟩ : ∃ n, n = 2 ^ k := ⟨_, rfl⟩
    obtain ⟨s, hs⟩ : ∃ s, s = 2 ^ l := ⟨_, rfl⟩
    have hn12 : n ≤ 4096 := by rw [hn]; exact Nat.pow_le_pow_right (show 0 < 2 by decide) hk
    have hn0 : 0 < n := by rw [hn]; exact Nat.two_pow_pos k
    have hs0 : 0 < s := by rw [hs]; exact Nat.two_pow_pos l
    have hsn : s ≤ n := by rw [hn, hs]; exact Nat.pow_le_pow_right (show 0 < 2 by decide) hl
    have hwk : wrap64 ((2 : Int) ^ k) = (n : Int) := by
      rw [show ((2 : Int) ^ k) = ((2 ^ k : Nat) : Int) by simp, ← hn]; unfold wrap64; omega
    have hwl : IntKind.u64.wrap ((2 : Int) ^ l) = (s : Int) := by
      rw [show ((2 : Int) ^ l) = ((2 ^ l : Nat) : Int) by simp, ← hs, IntKind.wrap_u64]; omega
    have HWK := Lib.hid hwk; clear hwk
    have HWL := Lib.hid hwl; clear hwl
    have HN := Lib.hid hn; clear hn
    have HS := Lib.hid hs; clear hs
    have hmk := fun w => mk_any (P := Try.prog) 25 3 _ _ (.int .i64 0) (by kernel_rfl) rfl rfl rfl rfl rfl n (by omega) w
    go_wp2_with fail
    rw [HWK.out, HWL.out, hmk]
    go_wp2_with fail
    go_loopw [8, 9] (fun c i wr => ∃ (j cv : Nat) (arr : Array Value), Hid (wr.heap[wc.heap.size]? = some (.cells arr 3 (0, 0))) ∧ Hid (Below wc.heap.size wc wr) ∧ j ≤ n ∧ i = .int .i64 j ∧ c = .int .u64 cv ∧ Hid (cv = if j = n then 0 else tr k j) ∧ Hid (∀ m, j ≤ m → m < n → arr[tr k m]? = some (.int .i64 0))) (fun _ i _ => n - (intOf i).toNat)
    case atStart =>
      refine ⟨0, 0, (List.replicate n (.int .i64 0)).toArray, ?_, (Below.refl _ _).alloc (Nat.le_refl _) _, by omega, rfl, rfl, ?_, ?_⟩
      · show _ = _
        unfold World.alloc
        exact Array.getElem?_push_size
      · show _ = _
        rw [tr_zero]; simp
      · intro m _ hm
        have := tr_lt k m
        rw [← HN.out] at this
        simp [this]
    case round =>
      obtain ⟨j, c, arr, h1, h2, h3, rfl, rfl, h4, h5⟩ := hrel
      by_cases hlt : j < n
      · have hc : c = tr k j := by rw [h4.out, if_neg (by omega)]
        have hcn : c < n := by rw [hc, HN.out]; exact tr_lt k j
        have hz : arr[c]? = some (.int .i64 0) := by rw [hc]; exact h5.out j (Nat.le_refl _) hlt
        have hcell := (cell_of_blk h1.out c).trans hz
        have hfree := free_of_blk h1.out c
        have haft : aft k c = if j + 1 = n then 0 else tr k (j + 1) := by
          rw [hc, HN.out]; exact aft_tr k j (by rw [← HN.out]; exact hlt)
        have hc5 : ((c : Nat) : Int) = wd (UInt64.ofNat c) := (wd_lit c (by omega)).symm
        have hnx : ((aft k c : Nat) : Int) = ((aft (lg n) (UInt64.ofNat c).toNat : Nat) : Int) := by
          rw [HN.out, lg_pow k (by omega), UInt64.toNat_ofNat', Nat.mod_eq_of_lt (by omega)]
        obtain ⟨nx, hx⟩ : ∃ nx, aft k c = nx := ⟨_, rfl⟩
        rw [hx] at haft hnx
        have hxn : nx < n := by rw [← hx, HN.out]; exact aft_lt k c
        have HA := Lib.hid haft; clear haft
        have HX := Lib.hid hnx; clear hnx
        have HC := Lib.hid hc; clear hc
        have HC5 := Lib.hid hc5; clear hc5
        clear hx hz
        go_wp2_with fail
        refine (after_lit (UInt64.ofNat c) _ nx _ _ (by omega) HC5.out HX.out).mono ?_
        rintro e w' ⟨rfl, rfl⟩
        go_wp2
        have hz : ¬ ((s : Int) = 0) := by omega
        obtain ⟨d, hd⟩ : ∃ d, d = n / s := ⟨_, rfl⟩
        have hd0 : 0 < d := by rw [hd]; exact Nat.div_pos hsn hs0
        have hdn : d ≤ n := by rw [hd]; exact Nat.div_le_self _ _
        have hq1 : (n : Int).tdiv s = d := by rw [hd]; rfl
        have hz2 : ¬ ((d : Int) = 0) := by omega
        have hq2 : ((j : Int) + 1).tmod d = ((j + 1) % d : Nat) := rfl
        have hq3 : (nx : Int).tmod s = (nx % s : Nat) := rfl
        have hq4 : (c : Int).tmod s = (c % s : Nat) := rfl
        have hlt1 : (j + 1) % d < d := Nat.mod_lt _ hd0
        have hlt2 : nx % s < s := Nat.mod_lt _ hs0
        have hlt3 : c % s < s := Nat.mod_lt _ hs0
        have HD := Lib.hid hd; clear hd
        obtain ⟨r, hr⟩ : ∃ r, r = (j + 1) % d := ⟨_, rfl⟩
        rw [← hr] at hq2 hlt1
        obtain ⟨p, hp⟩ : ∃ p, p = nx % s := ⟨_, rfl⟩
        rw [← hp] at hq3 hlt2
        obtain ⟨q, hq⟩ : ∃ q, q = c % s := ⟨_, rfl⟩
        rw [← hq] at hq4 hlt3
        have hpq : r = 0 ∨ p = q := by
          have e := side k l j hl
          rw [← HN.out, ← HS.out, ← HA.out, ← HC.out] at e
          have e2 : d = 2 ^ (k - l) := by rw [HD.out, HN.out, HS.out, Nat.pow_div hl (by decide)]
          rw [← e2, ← hr, ← hp, ← hq] at e
          exact e
        have hnew : Hid (∀ m, j + 1 ≤ m → m < n → (arr.setIfInBounds c (.int .i64 ((j : Int) + 1)))[tr k m]? = some (.int .i64 0)) := by
          intro m h6 h7
          rw [Array.getElem?_setIfInBounds_ne]
          · exact h5.out m (by omega) h7
          · rw [HC.out]
            intro e
            have := tr_inj k j m (by rw [← HN.out]; exact hlt) (by rw [← HN.out]; exact h7) e
            omega
        have hheap : Hid (∀ W : World, W = wr.setCell ⟨wc.heap.size, c, none⟩ (.int .i64 ((j : Int) + 1)) → W.heap[wc.heap.size]? = some (.cells (arr.setIfInBounds c (.int .i64 ((j : Int) + 1))) 3 (0, 0)) ∧ Below wc.heap.size wc W) := by
          rintro W rfl
          exact ⟨heap_setCell_same wr _ c arr _ _ h1.out, h2.out.setCell (Nat.le_refl _) _⟩
        have HR := Lib.hid hr; clear hr
        have HP := Lib.hid hp; clear hp
        have HQ := Lib.hid hq; clear hq
        by_cases hr0 : r = 0
        · subst hr0
          go_quiet (fail)
          go_wp2
          go_roundw
          case rel =>
            refine ⟨j + 1, nx, _, (hheap.out _ rfl).1, (hheap.out _ rfl).2.trans (((Fr.refl (fun _ => False) _).thenDrewN nq).below (hheap.out _ rfl).2.size (fun i hi => hi.elim)), by omega, by go_num, rfl, ?_, hnew⟩
            show _ = _
            rw [HA.out]
          case measure => simp [intOf]; omega
        · have hpq2 := hpq.resolve_left hr0
          clear hpq
          clear hlt3
          subst hpq2
          have hrb : ((r : Int) == 0) = false := beq_eq_false_iff_ne.2 (by omega)
          have hz' : ¬ s = 0 := by omega
          have hz2' : ¬ d = 0 := by omega
          have hw1 : IntKind.i64.wrap (s : Int) = s := by rw [IntKind.wrap_i64]; omega
          have hw2 : IntKind.i64.wrap (d : Int) = d := by rw [IntKind.wrap_i64]; omega
          have hw3 : IntKind.i64.wrap (r : Int) = r := by rw [IntKind.wrap_i64]; omega
          have hw4 : IntKind.u64.wrap (p : Int) = p := by rw [IntKind.wrap_u64]; omega
          have hw5 : IntKind.i64.wrap ((j : Int) + 1) = (j : Int) + 1 := by rw [IntKind.wrap_i64]; omega
          have hw6 : IntKind.u64.wrap (s : Int) = s := by rw [IntKind.wrap_u64]; omega
          go_quiet (fail)
          go_wp2
          go_roundw
          case rel =>
            refine ⟨j + 1, nx, _, (hheap.out _ rfl).1, (hheap.out _ rfl).2.trans (((Fr.refl (fun _ => False) _).thenDrewN nq).below (hheap.out _ rfl).2.size (fun i hi => hi.elim)), by omega, by go_num, rfl, ?_, hnew⟩
            show _ = _
            rw [HA.out]
          case measure => simp [intOf]; omega
      · have hc : c = 0 := by rw [h4.out, if_pos (by omega)]
        subst hc
        have HB := h2
        go_wp2_with fail
        refine (after_lit 0 0 4 8 _ (by decide) rfl (by decide)).mono ?_
        rintro e w' ⟨rfl, rfl⟩
        go_wp2_with fail
        refine (after_lit 4 4 2 8 _ (by decide) rfl (by decide)).mono ?_
        rintro e w' ⟨rfl, rfl⟩
        go_wp2
        go_ret
        exact ⟨rfl, HB.out⟩

set_option maxRecDepth 100000 in
theorem scanRound_lifted (os : Os) (started : os.Started) (H : Type) (enc : TypeId × Value → H) :
    ReturnsInHanded {} Try.checked os 4 .any (Rows.scanRoundSpec.pre6 enc Try.prog Try.f4 Rows.scanRoundRow.domain false) (Rows.scanRoundSpec.post enc Try.prog Try.f4 false true false false) := by
  refine returnsInHanded_of_change_sized (C := Try.checked) own started (by kernel_rfl) Try.func4
    (ChangeSpec.witness6 (enc := enc) (C := Try.checked) false ⟨#[], #[.int .i64 0, .int .i64 0], []⟩ 8 (by kernel_rfl) (by kernel_rfl) (by kernel_rfl) (by kernel_rfl)) ?_
  intro W base args ds gs before hval0 hW hcnd hsz0 _
  have hval : ∀ (j : Nat) t v, Try.f4.params[j]? = some t → args[j]? = some v → Value.okWide Try.prog W .any base t v := hval0
  have hW' := hW
  obtain ⟨p, q, hA0, hV, rfl, hfz, hnd⟩ := hW
  have hA : DataW.TrodAll enc Try.prog W 0 (fun _ => true) true Try.f4.params.toList args.toList ds p := hA0
  rw [Try.params4] at hA hval
  obtain ⟨v0, vs0, d0, ds0, p0, q0, hargs, rfl, rfl, h0, r0⟩ := trodAll_cons hA
  obtain ⟨v1, vs1, d1, ds1, p1, q1, rfl, rfl, rfl, h1, r1⟩ := trodAll_cons r0
  obtain ⟨rfl, rfl, rfl⟩ := trodAll_nil r1
  obtain rfl : args = #[v0, v1] := by cases args; simp_all
  obtain ⟨rfl, rfl⟩ := trodVars_none hV
  have hsz : (DataW.weightsEach Try.prog [3, 3] [d0, d1]).all (fun x => decide (x ≤ reachBytes)) = true := by
    have h := hsz0
    simp only [List.append_nil] at h
    have e : (Try.f4.params.toList ++ DataSpec.varTypes Try.checked.prog Rows.scanRoundSpec.plain) = [3, 3] := by kernel_rfl
    rw [e] at h; exact h
  clear hsz0
  obtain ⟨hw0, hsz0⟩ := weights_cons hsz
  obtain ⟨x0, rfl, lo0, hi0⟩ := open_i64 Try.underlying3 (hval 0 3 v0 rfl rfl) h0
  obtain ⟨hw1, hsz1⟩ := weights_cons hsz0
  obtain ⟨x1, rfl, lo1, hi1⟩ := open_i64 Try.underlying3 (hval 1 3 v1 rfl rfl) h1
  clear hA0 hval0
  refine (scanRound_walk W x0 lo0 hi0 x1 lo1 hi1).mono fun e W' ⟨he, bel⟩ => ?_
  subst he
  exact ⟨_, rfl, law_post laidOut Try.underlying4 (by kernel_rfl) rfl (by kernel_rfl) hW' rfl bel⟩

theorem scanRound_holds : Rows.ScanRoundSaid :=
  OpenClaim.holds_of_wide 4 Try.f4 rfl rfl rfl rfl rfl rfl rfl ⟨rfl, rfl, rfl, rfl, rfl⟩ rfl rfl rfl rfl rfl (by kernel_rfl) Try.func4 (by kernel_rfl)
    (of_decide_eq_true (by kernel_rfl)) (by unfold Func.isWrapper; rw [if_neg (of_decide_eq_false (by kernel_rfl))]; exact ⟨rfl, rfl⟩)
    (fun os started H enc _ => scanRound_lifted os started H enc)
end Go.Proofs.Ytkecipdonamjaaa

/- SessionKnown: the chapter's examples, and the bounds. No condition. -/
import Derived.Test.YtpcjogmikgfgdaaKn
import Derived.Outline
namespace Go.Proofs.Ytpcjogmikgfgdaa
open Go.ChangeShapes Go.WideShapes Go.ChangeAt Go.RowKit
set_option maxRecDepth 100000 in
set_option maxHeartbeats 8000000 in
theorem sessionKnown_walk (w : World) :
    Calls Try.prog 8 #[] w fun e w' => e = .returned (.bool true) ∧ Below w.heap.size w w' := by
  go_enter Try.func8, Try.ntmps8
  go_wp2_with fail
  refine (wakes26_any _).mono ?_
  rintro e w1 ⟨rfl, hb1⟩
  have HB1 := Lib.hid hb1
  clear hb1
  go_wp2_with fail
  refine (newSess_any _).mono ?_
  intro e w2 hnp
  obtain ⟨p, m, rfl, hs, hb⟩ := sessF_new hnp
  obtain ⟨F0, HK0⟩ : ∃ F0, Hid (Kn w F0 p m (.slice none 0 0) ⟨false, false, false, [], []⟩ w2) := ⟨_, hs.base HB1.out.size, HB1.out.trans (hb.mono HB1.out.size)⟩
  clear hs hb HB1 hnp
  go_wp2_with fail
  refine (end_shut w2 _ p m _ false false [] [] HK0.out.f.s).mono ?_
  rintro e w' ⟨rfl, rfl⟩
  go_wp2_with fail
  obtain ⟨W1, hW⟩ : ∃ W, w2.alloc (.cells #[.string ⟨#[97]⟩] 9) = W := ⟨_, rfl⟩
  have HK1 : Hid (Kn w F0 p m (.slice none 0 0) ⟨false, false, false, [], []⟩ W1) := by rw [← hW]; exact HK0.out.quiet (Fr.alloc _ _ _)
  have HL1 : Hid (RdC W1 1 (.slice (some ⟨w2.heap.size, 0, none⟩) 1 1) ([⟨#[97]⟩] : List ByteArray).length (([⟨#[97]⟩] : List ByteArray).map .string)) := by rw [← hW]; exact lit_rd w2 _
  have HNE1 : Hid (w2.heap.size ≠ p) := fun e => by have := HK0.out.f.s.lt; omega
  rw [hW]
  clear hW
  refine (queue_shut W1 _ p m _ false false [] [] _ HK1.out.f.s).mono ?_
  rintro e w' ⟨rfl, rfl⟩
  clear HL1
  go_wp2_with fail
  refine (begin_any W1 _ p m _ _ HK1.out.f.s).mono ?_
  rintro e W2 ⟨he, hs, hf⟩
  obtain rfl : e = .returned (.int .i64 0) := he
  have HK2 := Lib.hid (HK1.out.turn (S' := ⟨true, false, false, [], []⟩) hs (hf.mono (fun _ h _ => .inl h)))
  clear hs hf
  go_wp2_with fail
  refine (begin_any W2 _ p m _ _ HK2.out.f.s).mono ?_
  rintro e W3 ⟨he, hs, hf⟩
  obtain rfl : e = .returned (.int .i64 260) := he
  have HK3 := Lib.hid (HK2.out.turn (S' := ⟨true, false, false, [], []⟩) hs (hf.mono (fun _ h _ => .inl h)))
  clear hs hf
  go_wp2_with fail
  obtain ⟨W4, hW⟩ : ∃ W, W3.alloc (.cells #[.string ⟨#[97]⟩, .string ⟨#[98]⟩] 9) = W := ⟨_, rfl⟩
  have HK4 : Hid (Kn w F0 p m (.slice none 0 0) ⟨true, false, false, [], []⟩ W4) := by rw [← hW]; exact HK3.out.quiet (Fr.alloc _ _ _)
  have HL4 : Hid (RdC W4 1 (.slice (some ⟨W3.heap.size, 0, none⟩) 2 2) ([⟨#[97]⟩, ⟨#[98]⟩] : List ByteArray).length (([⟨#[97]⟩, ⟨#[98]⟩] : List ByteArray).map .string)) := by rw [← hW]; exact lit_rd2 W3 _ _
  have HNE4 : Hid (W3.heap.size ≠ p) := fun e => by have := HK3.out.f.s.lt; omega
  rw [hW]
  clear hW
  refine (queue_ok W4 _ p m _ false false [] [] _ [⟨#[97]⟩, ⟨#[98]⟩] HK4.out.f.s (by decide) HL4.out (by decide) HK4.out.bel.size).mono ?_
  intro e W5 hq
  obtain ⟨vq5, F5, rfl, HK5⟩ := Kn.queued (S' := ⟨true, false, false, [[⟨#[97]⟩, ⟨#[98]⟩]], []⟩) HK4.out hq
  clear hq HL4
  go_wp2_with fail
  obtain ⟨W6, hW⟩ : ∃ W, W5.alloc (.cells #[.string ⟨#[99]⟩] 9) = W := ⟨_, rfl⟩
  have HK6 : Hid (Kn w F5 p m vq5 ⟨true, false, false, [[⟨#[97]⟩, ⟨#[98]⟩]], []⟩ W6) := by rw [← hW]; exact HK5.out.quiet (Fr.alloc _ _ _)
  have HL6 : Hid (RdC W6 1 (.slice (some ⟨W5.heap.size, 0, none⟩) 1 1) ([⟨#[99]⟩] : List ByteArray).length (([⟨#[99]⟩] : List ByteArray).map .string)) := by rw [← hW]; exact lit_rd W5 _
  have HNE6 : Hid (W5.heap.size ≠ p) := fun e => by have := HK5.out.f.s.lt; omega
  rw [hW]
  clear hW
  refine (queue_ok W6 _ p m _ false false [[⟨#[97]⟩, ⟨#[98]⟩]] [] _ [⟨#[99]⟩] HK6.out.f.s (by decide) HL6.out (by decide) HK6.out.bel.size).mono ?_
  intro e W7 hq
  obtain ⟨vq7, F7, rfl, HK7⟩ := Kn.queued (S' := ⟨true, false, false, [[⟨#[97]⟩, ⟨#[98]⟩], [⟨#[99]⟩]], []⟩) HK6.out hq
  clear hq HL6
  go_wp2_with fail
  refine (queued_any W7 _ p m _ _ _ _ _ _ HK7.out.f.s).mono ?_
  rintro e W8 ⟨v8, qs8, rfl, r1, r2, hb⟩
  have HLS8 := Lib.hid (Ls.of_owns r1 r2)
  have HK8 := Lib.hid (HK7.out.later hb)
  clear r1 r2 hb
  go_wp2_with fail
  refine (sameLs_any _ _ _ lsQ lsQ (((((HLS8).out.fr (T := fun _ => False) (Fr.alloc _ _ _))).fr (T := fun _ => False) (Fr.alloc _ _ _)).fr (T := fun _ => False) (Fr.alloc _ _ _)) (lits_ls W8 _ _ _ (by simp) (by simp) (by simp))).mono ?_
  rintro e W9 ⟨rfl, n9, hn⟩
  have HK9 : Hid (Kn w F7 p m vq7 ⟨true, false, false, [[⟨#[97]⟩, ⟨#[98]⟩], [⟨#[99]⟩]], []⟩ W9) := by rw [hn]; exact (((HK8.out.quiet (Fr.alloc _ _ _)).quiet (Fr.alloc _ _ _)).quiet (Fr.alloc _ _ _)).quiet (Fr.drewN _ _ _)
  clear hn
  rw [lsQ_eq]
  go_wp2_with fail
  refine (watch_shut _ _ p m _ false false [[⟨#[97]⟩, ⟨#[98]⟩], [⟨#[99]⟩]] [] _ HK9.out.f.s).mono ?_
  rintro e w' ⟨rfl, rfl⟩
  clear HLS8
  go_wp2_with fail
  refine (end_open W9 _ p m _ false false [[⟨#[97]⟩, ⟨#[98]⟩], [⟨#[99]⟩]] [] HK9.out.f.s).mono ?_
  rintro e W10 ⟨rfl, hs, ⟨qs, r1, r2⟩, hf⟩
  have HK10 := Lib.hid (HK9.out.ended hs hf)
  have HLS10 := Lib.hid (Ls.of_owns r1 r2)
  obtain ⟨a10, c10, rfl⟩ := owns_sliceN r1
  clear hs hf r1 r2
  go_wp2_with fail
  refine (sameLs_any _ _ _ lsQ lsQ (((((HLS10).out.fr (T := fun _ => False) (Fr.alloc _ _ _))).fr (T := fun _ => False) (Fr.alloc _ _ _)).fr (T := fun _ => False) (Fr.alloc _ _ _)) (lits_ls W10 _ _ _ (by simp) (by simp) (by simp))).mono ?_
  rintro e W11 ⟨rfl, n11, hn⟩
  have HK11 : Hid (Kn w F7 p m (.slice none 0 0) ⟨false, false, false, [], []⟩ W11) := by rw [hn]; exact (((HK10.out.quiet (Fr.alloc _ _ _)).quiet (Fr.alloc _ _ _)).quiet (Fr.alloc _ _ _)).quiet (Fr.drewN _ _ _)
  clear hn
  rw [lsQ_eq]
  clear HLS10
  go_wp2_with fail
  refine (open_any _ _ p m _ _ HK11.out.f.s).mono ?_
  rintro e w' ⟨rfl, rfl⟩
  go_wp2_with fail
  refine (watch_new W11 _ p m _ false false [] [] ⟨#[107]⟩ HK11.out.f.s (by decide) (by simp) (by decide)).mono ?_
  rintro e W12 ⟨rfl, hs, hf⟩
  have HK12 := Lib.hid (HK11.out.turn (S' := ⟨false, false, false, [], [⟨#[107]⟩]⟩) hs (hf.mono (fun _ h _ => .inr h)))
  clear hs hf
  go_wp2_with fail
  refine (watch_new W12 _ p m _ false false [] [⟨#[107]⟩] ⟨#[106]⟩ HK12.out.f.s (by decide) (by simp) (by decide)).mono ?_
  rintro e W13 ⟨rfl, hs, hf⟩
  have HK13 := Lib.hid (HK12.out.turn (S' := ⟨false, false, false, [], [⟨#[107]⟩, ⟨#[106]⟩]⟩) hs (hf.mono (fun _ h _ => .inr h)))
  clear hs hf
  go_wp2_with fail
  refine (watch_old _ _ p m _ false false [] [⟨#[107]⟩, ⟨#[106]⟩] ⟨#[107]⟩ HK13.out.f.s (by decide) (by simp)).mono ?_
  rintro e w' ⟨rfl, rfl⟩
  go_wp2_with fail
  refine (watched_any W13 _ p m _ _ HK13.out.f.s).mono ?_
  rintro e W14 ⟨v14, rfl, hr, hb⟩
  obtain ⟨a14, c14, rfl⟩ := owns_sliceN hr
  have HK14 := Lib.hid (HK13.out.later hb)
  rw [sort_kj] at hr
  have HR14 := Lib.hid (RdC.of_owns hr)
  clear hr hb
  go_wp2_with fail
  obtain ⟨W15, hW⟩ : ∃ W, W14.alloc (.cells #[.string ⟨#[106]⟩, .string ⟨#[107]⟩] 9) = W := ⟨_, rfl⟩
  have HK15 : Hid (Kn w F7 p m (.slice none 0 0) ⟨false, false, false, [], [⟨#[107]⟩, ⟨#[106]⟩]⟩ W15) := by rw [← hW]; exact HK14.out.quiet (Fr.alloc _ _ _)
  have HL15 : Hid (RdC W15 1 (.slice (some ⟨W14.heap.size, 0, none⟩) 2 2) ([⟨#[106]⟩, ⟨#[107]⟩] : List ByteArray).length (([⟨#[106]⟩, ⟨#[107]⟩] : List ByteArray).map .string)) := by rw [← hW]; exact lit_rd2 W14 _ _
  have HNE15 : Hid (W14.heap.size ≠ p) := fun e => by have := HK14.out.f.s.lt; omega
  have HFR : Hid (Fr (fun _ => False) W14 W15) := by rw [← hW]; exact Fr.alloc _ _ _
  rw [hW]
  clear hW
  refine (sameT_any W15 _ _ [⟨#[106]⟩, ⟨#[107]⟩] [⟨#[106]⟩, ⟨#[107]⟩] (HR14.out.fr HFR.out (fun _ _ h => h)) HL15.out).mono ?_
  rintro e W16 ⟨rfl, n16, hn⟩
  have HK16 : Hid (Kn w F7 p m (.slice none 0 0) ⟨false, false, false, [], [⟨#[107]⟩, ⟨#[106]⟩]⟩ W16) := by rw [hn]; exact HK15.out.quiet (Fr.drewN _ _ _)
  clear hn HL15 HR14
  rw [jk_eq]
  go_wp2_with fail
  obtain ⟨W17, hW⟩ : ∃ W, W16.alloc (.cells #[.string ⟨#[120]⟩] 9) = W := ⟨_, rfl⟩
  have HK17 : Hid (Kn w F7 p m (.slice none 0 0) ⟨false, false, false, [], [⟨#[107]⟩, ⟨#[106]⟩]⟩ W17) := by rw [← hW]; exact HK16.out.quiet (Fr.alloc _ _ _)
  have HL17 : Hid (RdC W17 1 (.slice (some ⟨W16.heap.size, 0, none⟩) 1 1) ([⟨#[120]⟩] : List ByteArray).length (([⟨#[120]⟩] : List ByteArray).map .string)) := by rw [← hW]; exact lit_rd W16 _
  have HNE17 : Hid (W16.heap.size ≠ p) := fun e => by have := HK16.out.f.s.lt; omega
  rw [hW]
  clear hW
  refine (touch_any W17 _ p m _ false false false [] [⟨#[107]⟩, ⟨#[106]⟩] _ [⟨#[120]⟩] HK17.out.f.s (fun W hf => HL17.out.fr hf (fun g hg e => by cases hg; exact HNE17.out e)) (sz_small _ (by decide))).mono ?_
  rintro e W18 ⟨rfl, hs, hf⟩
  rw [touch_x] at hs
  have HK18 := Lib.hid (HK17.out.turn (S' := ⟨false, false, false, [], [⟨#[107]⟩, ⟨#[106]⟩]⟩) hs (hf.mono (fun _ h _ => .inl h)))
  clear hs hf
  clear HL17 HNE17
  go_wp2_with fail
  refine (dirty_any _ _ p m _ _ HK18.out.f.s).mono ?_
  rintro e w' ⟨rfl, rfl⟩
  go_wp2_with fail
  obtain ⟨W19, hW⟩ : ∃ W, W18.alloc (.cells #[.string ⟨#[120]⟩, .string ⟨#[106]⟩] 9) = W := ⟨_, rfl⟩
  have HK19 : Hid (Kn w F7 p m (.slice none 0 0) ⟨false, false, false, [], [⟨#[107]⟩, ⟨#[106]⟩]⟩ W19) := by rw [← hW]; exact HK18.out.quiet (Fr.alloc _ _ _)
  have HL19 : Hid (RdC W19 1 (.slice (some ⟨W18.heap.size, 0, none⟩) 2 2) ([⟨#[120]⟩, ⟨#[106]⟩] : List ByteArray).length (([⟨#[120]⟩, ⟨#[106]⟩] : List ByteArray).map .string)) := by rw [← hW]; exact lit_rd2 W18 _ _
  have HNE19 : Hid (W18.heap.size ≠ p) := fun e => by have := HK18.out.f.s.lt; omega
  rw [hW]
  clear hW
  refine (touch_any W19 _ p m _ false false false [] [⟨#[107]⟩, ⟨#[106]⟩] _ [⟨#[120]⟩, ⟨#[106]⟩] HK19.out.f.s (fun W hf => HL19.out.fr hf (fun g hg e => by cases hg; exact HNE19.out e)) (sz_small _ (by decide))).mono ?_
  rintro e W20 ⟨rfl, hs, hf⟩
  rw [touch_xj] at hs
  have HK20 := Lib.hid (HK19.out.turn (S' := ⟨false, false, true, [], [⟨#[107]⟩, ⟨#[106]⟩]⟩) hs (hf.mono (fun _ h _ => .inl h)))
  clear hs hf
  clear HL19 HNE19
  go_wp2_with fail
  refine (dirty_any _ _ p m _ _ HK20.out.f.s).mono ?_
  rintro e w' ⟨rfl, rfl⟩
  go_wp2_with fail
  refine (begin_any W20 _ p m _ _ HK20.out.f.s).mono ?_
  rintro e W21 ⟨he, hs, hf⟩
  obtain rfl : e = .returned (.int .i64 0) := he
  have HK21 := Lib.hid (HK20.out.turn (S' := ⟨true, false, true, [], [⟨#[107]⟩, ⟨#[106]⟩]⟩) hs (hf.mono (fun _ h _ => .inl h)))
  clear hs hf
  go_wp2_with fail
  refine (end_open W21 _ p m _ false true [] [⟨#[107]⟩, ⟨#[106]⟩] HK21.out.f.s).mono ?_
  rintro e W22 ⟨rfl, hs, ⟨qs, r1, r2⟩, hf⟩
  have HK22 := Lib.hid (HK21.out.ended hs hf)
  have HLS22 := Lib.hid (Ls.of_owns r1 r2)
  clear hs hf r1 r2
  clear HLS22
  go_wp2_with fail
  refine (dirty_any _ _ p m _ _ HK22.out.f.s).mono ?_
  rintro e w' ⟨rfl, rfl⟩
  go_wp2_with fail
  obtain ⟨W23, hW⟩ : ∃ W, W22.alloc (.cells #[.string ⟨#[107]⟩] 9) = W := ⟨_, rfl⟩
  have HK23 : Hid (Kn w F7 p m (.slice none 0 0) ⟨false, false, false, [], []⟩ W23) := by rw [← hW]; exact HK22.out.quiet (Fr.alloc _ _ _)
  have HL23 : Hid (RdC W23 1 (.slice (some ⟨W22.heap.size, 0, none⟩) 1 1) ([⟨#[107]⟩] : List ByteArray).length (([⟨#[107]⟩] : List ByteArray).map .string)) := by rw [← hW]; exact lit_rd W22 _
  have HNE23 : Hid (W22.heap.size ≠ p) := fun e => by have := HK22.out.f.s.lt; omega
  rw [hW]
  clear hW
  refine (touch_any W23 _ p m _ false false false [] [] _ [⟨#[107]⟩] HK23.out.f.s (fun W hf => HL23.out.fr hf (fun g hg e => by cases hg; exact HNE23.out e)) (sz_small _ (by decide))).mono ?_
  rintro e W24 ⟨rfl, hs, hf⟩
  rw [touch_k0] at hs
  have HK24 := Lib.hid (HK23.out.turn (S' := ⟨false, false, false, [], []⟩) hs (hf.mono (fun _ h _ => .inl h)))
  clear hs hf
  clear HL23 HNE23
  go_wp2_with fail
  refine (dirty_any _ _ p m _ _ HK24.out.f.s).mono ?_
  rintro e w' ⟨rfl, rfl⟩
  go_wp2_with fail
  refine (watched_any W24 _ p m _ _ HK24.out.f.s).mono ?_
  rintro e W25 ⟨v25, rfl, hr, hb⟩
  obtain ⟨a25, c25, rfl⟩ := owns_sliceN hr
  have HK25 := Lib.hid (HK24.out.later hb)
  clear hr hb
  go_wp2_with fail
  refine (spoil_any W25 _ p m _ _ HK25.out.f.s).mono ?_
  rintro e W26 ⟨⟨_, rfl⟩, hs, hf⟩
  have HK26 := Lib.hid (HK25.out.turn (S' := ⟨false, false, false, [], []⟩) hs (hf.mono (fun _ h _ => .inl h)))
  clear hs hf
  go_wp2_with fail
  refine (spoilt_any _ _ p m _ _ HK26.out.f.s).mono ?_
  rintro e w' ⟨rfl, rfl⟩
  go_wp2_with fail
  refine (begin_any W26 _ p m _ _ HK26.out.f.s).mono ?_
  rintro e W27 ⟨he, hs, hf⟩
  obtain rfl : e = .returned (.int .i64 0) := he
  have HK27 := Lib.hid (HK26.out.turn (S' := ⟨true, false, false, [], []⟩) hs (hf.mono (fun _ h _ => .inl h)))
  clear hs hf
  go_wp2_with fail
  refine (spoil_any W27 _ p m _ _ HK27.out.f.s).mono ?_
  rintro e W28 ⟨⟨_, rfl⟩, hs, hf⟩
  have HK28 := Lib.hid (HK27.out.turn (S' := ⟨true, true, false, [], []⟩) hs (hf.mono (fun _ h _ => .inl h)))
  clear hs hf
  go_wp2_with fail
  refine (spoilt_any _ _ p m _ _ HK28.out.f.s).mono ?_
  rintro e w' ⟨rfl, rfl⟩
  go_wp2_with fail
  refine (unwatch_any W28 _ p m _ true true false [] [] HK28.out.f.s).mono ?_
  rintro e W29 ⟨rfl, hs, hf⟩
  have HK29 := Lib.hid (HK28.out.turn (S' := ⟨true, true, false, [], []⟩) hs hf)
  clear hs hf
  go_wp2_with fail
  refine (spoilt_any _ _ p m _ _ HK29.out.f.s).mono ?_
  rintro e w' ⟨rfl, rfl⟩
  go_wp2_with fail
  refine (end_open W29 _ p m _ true false [] [] HK29.out.f.s).mono ?_
  rintro e W30 ⟨rfl, hs, ⟨qs, r1, r2⟩, hf⟩
  have HK30 := Lib.hid (HK29.out.ended hs hf)
  have HLS30 := Lib.hid (Ls.of_owns r1 r2)
  clear hs hf r1 r2
  clear HLS30
  go_wp2_with fail
  refine (spoilt_any _ _ p m _ _ HK30.out.f.s).mono ?_
  rintro e w' ⟨rfl, rfl⟩
  go_wp2_with fail
  go_loopw [170] (fun i wr => ∃ k : Nat, i = .int .i64 k ∧ k ≤ 1025 ∧ Hid (Kn w F7 p m (.slice none 0 0) ⟨false, false, false, [], (List.range (min k 1024)).map ky⟩ wr)) (fun i _ => 1025 - (intOf i).toNat)
  case atStart => exact ⟨0, rfl, by omega, HK30.out⟩
  case round =>
    obtain ⟨k, rfl, hk, HK⟩ := hrel
    obtain ⟨wo, rfl⟩ : ∃ x, x = wr := ⟨_, rfl⟩
    by_cases hlt : k < 1025
    · have g1 : decide ((k : Int) < 1025) = true := by rw [decide_eq_true_eq]; omega
      go_wp2_with (refine wpl_toString rfl (.tmp 179) 66 9 5 rfl _ (kyB k) rfl Try.underlying66 Try.underlying9 Try.underlying5 (ky_lit wo k (by omega)) ?_)
      obtain ⟨wq, hwq⟩ : ∃ W, wo.alloc (.cells #[.int .u8 ((k : Int) % 256), .int .u8 ((k : Int) / 256)] 5) = W := ⟨_, rfl⟩
      have HKQ : Hid (Kn w F7 p m (.slice none 0 0) ⟨false, false, false, [], (List.range (min k 1024)).map ky⟩ wq) := by rw [← hwq]; exact HK.out.quiet (Fr.alloc _ _ _)
      try rw [hwq]
      clear hwq
      by_cases hk4 : k < 1024
      · have hmin : min k 1024 = k := by omega
        have hmin1 : min (k + 1) 1024 = k + 1 := by omega
        have g4 : ((k : Int) == 1024) = false := beq_eq_false_iff_ne.2 (by omega)
        rw [hmin] at HKQ
        refine (watch_new wq _ p m _ false false [] _ (ky k) HKQ.out.f.s (ky_size k) (ky_new (by omega)) (by rw [ky_len]; omega)).mono ?_
        rintro e w3 ⟨rfl, hs, hf⟩
        have HK3 := Lib.hid (HKQ.out.turn (S' := ⟨false, false, false, [], _⟩) hs (hf.mono (fun _ h _ => .inr h)))
        rw [← ky_succ] at HK3
        clear hs hf hmin
        go_wp2_with fail
        refine (with_any _ _ _).mono ?_
        rintro e w' ⟨rfl, rfl⟩
        go_wp2
        go_roundw
        case rel => exact ⟨k + 1, by go_num, by omega, by rw [hmin1]; exact HK3.out⟩
        case measure => simp [intOf]; omega
      · obtain rfl : k = 1024 := by omega
        have hmin : min 1024 1024 = 1024 := rfl
        rw [hmin] at HKQ
        refine (watch_full wq _ p m _ false false [] _ (ky 1024) HKQ.out.f.s (ky_size _) (ky_new (by omega)) (by rw [ky_len]; omega)).mono ?_
        rintro e w3 ⟨rfl, rfl⟩
        clear hmin
        go_wp2_with fail
        refine (with_any _ _ _).mono ?_
        rintro e w' ⟨rfl, rfl⟩
        go_wp2
        go_roundw
        case rel => exact ⟨1025, by go_num, by omega, HKQ.out⟩
        case measure => simp [intOf]
    · obtain rfl : k = 1025 := by omega
      have HKW : Hid (Kn w F7 p m (.slice none 0 0) ⟨false, false, false, [], (List.range 1024).map ky⟩ wo) := HK
      clear HK
      go_wp2_with fail
      refine (begin_any wo _ p m _ _ HKW.out.f.s).mono ?_
      rintro e w5 ⟨he, hs, hf⟩
      obtain rfl : e = .returned (.int .i64 0) := he
      have HK5 := Lib.hid (HKW.out.turn (S' := ⟨true, false, false, [], (List.range 1024).map ky⟩) hs (hf.mono (fun _ h _ => .inl h)))
      clear hs hf HKW
      go_wp2_with fail
      go_loopw [190] (fun i wr => ∃ (k : Nat) (vq : Value) (F : Nat → Prop), i = .int .i64 k ∧ k ≤ 1025 ∧ Hid (Kn w F p m vq ⟨true, false, false, List.replicate (min k 1024) [], (List.range 1024).map ky⟩ wr)) (fun i _ => 1025 - (intOf i).toNat)
      case atStart => exact ⟨0, _, _, rfl, by omega, HK5.out⟩
      case round =>
        obtain ⟨k, vq, F, rfl, hk, HK⟩ := hrel
        obtain ⟨w6, rfl⟩ : ∃ x, x = wr := ⟨_, rfl⟩
        clear HK5
        by_cases hlt2 : k < 1025
        · have g1 : decide ((k : Int) < 1025) = true := by rw [decide_eq_true_eq]; omega
          by_cases hk4 : k < 1024
          · have hmin : min k 1024 = k := by omega
            have hmin1 : min (k + 1) 1024 = k + 1 := by omega
            have g4 : ((k : Int) == 1024) = false := beq_eq_false_iff_ne.2 (by omega)
            rw [hmin] at HK
            clear hmin
            go_wp2_with fail
            refine (queue_ok w6 _ p m _ false false _ _ _ [] HK.out.f.s (by rw [List.length_replicate]; exact hk4) (RdC.nil _ _) (by decide) HK.out.bel.size).mono ?_
            intro e w7 hq
            rw [← List.replicate_succ'] at hq
            obtain ⟨vq7, F7, rfl, HK7⟩ := Kn.queued HK.out hq
            clear hq
            go_wp2_with fail
            refine (with_any _ _ _).mono ?_
            rintro e w' ⟨rfl, rfl⟩
            go_wp2
            go_roundw
            case rel => exact ⟨k + 1, vq7, F7, by go_num, by omega, by rw [hmin1]; exact HK7.out⟩
            case measure => simp [intOf]; omega
          · obtain rfl : k = 1024 := by omega
            go_wp2_with fail
            refine (queue_full w6 _ p m _ false false _ _ _ HK.out.f.s (by rw [List.length_replicate]; exact Nat.le_refl _)).mono ?_
            rintro e w7 ⟨rfl, rfl⟩
            go_wp2_with fail
            refine (with_any _ _ _).mono ?_
            rintro e w' ⟨rfl, rfl⟩
            go_wp2
            go_roundw
            case rel => exact ⟨1025, vq, F, by go_num, by omega, HK.out⟩
            case measure => simp [intOf]
        · obtain rfl : k = 1025 := by omega
          obtain ⟨q, hql, HKQ⟩ : ∃ q : List (List ByteArray), q.length = 1024 ∧ Hid (Kn w F p m vq ⟨true, false, false, q, (List.range 1024).map ky⟩ w6) := ⟨_, List.length_replicate, HK⟩
          clear HK
          go_wp2_with fail
          refine (end_open w6 _ p m _ false false q _ HKQ.out.f.s).mono ?_
          rintro e w7 ⟨rfl, hs, ⟨qs, r1, r2⟩, hf⟩
          have HK7 := Lib.hid (HKQ.out.ended hs hf)
          rw [hql] at r1
          obtain ⟨a7, c7, rfl⟩ := owns_sliceN r1
          clear hs hf r1 r2 hql
          go_wp2_with fail
          refine (watched_any w7 _ p m _ _ HK7.out.f.s).mono ?_
          rintro e w8 ⟨v8, rfl, hr, hb⟩
          obtain ⟨a8, c8, rfl⟩ := owns_sliceN hr
          have HK8 := Lib.hid (HK7.out.later hb)
          clear hr hb
          go_wp2
          go_ret
          exact ⟨rfl, HK8.out.bel⟩
set_option maxRecDepth 100000 in
theorem sessionKnown_lifted (os : Os) (started : os.Started) (H : Type) (enc : TypeId × Value → H) :
    ReturnsInHanded {} Try.checked os 8 .any (Rows.sessionKnownSpec.pre6 enc Try.prog Try.f8 Rows.sessionKnownRow.domain false) (Rows.sessionKnownSpec.post enc Try.prog Try.f8 false true false false) := by
  refine returnsInHanded_of_change_sized (C := Try.checked) own started (by kernel_rfl) Try.func8
    (ChangeSpec.witness6 (enc := enc) (C := Try.checked) false ⟨#[], #[], []⟩ 8 (by kernel_rfl) (by kernel_rfl) (by kernel_rfl) (by kernel_rfl)) ?_
  intro W base args ds gs before hval0 hW hcnd hsz0 _
  have hval : ∀ (j : Nat) t v, Try.f8.params[j]? = some t → args[j]? = some v → Value.okWide Try.prog W .any base t v := hval0
  have hW' := hW
  obtain ⟨p, q, hA0, hV, rfl, hfz, hnd⟩ := hW
  have hA : DataW.TrodAll enc Try.prog W 0 (fun _ => true) true Try.f8.params.toList args.toList ds p := hA0
  rw [Try.params8] at hA hval
  obtain ⟨hargs, rfl, rfl⟩ := trodAll_nil hA
  obtain rfl : args = #[] := by cases args; simp_all
  obtain ⟨rfl, rfl⟩ := trodVars_none hV
  clear hsz0
  clear hA0 hval0
  refine (sessionKnown_walk W ).mono fun e W' ⟨he, bel⟩ => ?_
  subst he
  exact ⟨_, rfl, law_post laidOut Try.underlying4 (by kernel_rfl) rfl (by kernel_rfl) hW' rfl bel⟩

theorem sessionKnown_holds : Rows.SessionKnownSaid :=
  OpenClaim.holds_of_wide 8 Try.f8 rfl rfl rfl rfl rfl rfl rfl ⟨rfl, rfl, rfl, rfl, rfl⟩ rfl rfl rfl rfl rfl (by kernel_rfl) Try.func8 (by kernel_rfl)
    (of_decide_eq_true (by kernel_rfl)) (by unfold Func.isWrapper; rw [if_neg (of_decide_eq_false (by kernel_rfl))]; exact ⟨rfl, rfl⟩)
    (fun os started H enc _ => sessionKnown_lifted os started H enc)
end Go.Proofs.Ytpcjogmikgfgdaa

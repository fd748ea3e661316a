/- The walk of FlockKnown. No condition. -/
import Derived.Test.YtgomilodeaafdaaBi
namespace Go.Proofs.Ytgomilodeaafdaa
open Go.ChangeShapes Go.WideShapes Go.ChangeAt Go.RowKit Du
def kC : ByteArray := ⟨#[99]⟩
def kD : ByteArray := ⟨#[100]⟩
theorem lt_AB : ltS kA kB := kAB
theorem lt_AC : ltS kA kC := by unfold ltS kA kC; rw [Go.ByteArray.toList_eq, Go.ByteArray.toList_eq]; decide
theorem lt_AD : ltS kA kD := by unfold ltS kA kD; rw [Go.ByteArray.toList_eq, Go.ByteArray.toList_eq]; decide
theorem lt_BC : ltS kB kC := by unfold ltS kB kC; rw [Go.ByteArray.toList_eq, Go.ByteArray.toList_eq]; decide
theorem lt_BD : ltS kB kD := by unfold ltS kB kD; rw [Go.ByteArray.toList_eq, Go.ByteArray.toList_eq]; decide
theorem lt_CD : ltS kC kD := by unfold ltS kC kD; rw [Go.ByteArray.toList_eq, Go.ByteArray.toList_eq]; decide
theorem rise_abc : [kA, kB, kC].Pairwise ltS := by simp [lt_AB, lt_AC, lt_BC]
theorem rise_bcd : [kB, kC, kD].Pairwise ltS := by simp [lt_BC, lt_BD, lt_CD]
theorem rise_abcd : [kA, kB, kC, kD].Pairwise ltS := by simp [lt_AB, lt_AC, lt_AD, lt_BC, lt_BD, lt_CD]
/-- a flock of these, whatever its tables are -/
def FA (K : Nat) (w0 w : World) (r d : Nat) (A : List Me) : Prop := ∃ M F, Fc K w0 w F r d M A
section
variable {K : Nat} {w0 w w' : World} {r d : Nat} {A A' : List Me} {key : ByteArray}
theorem FA.quiet (h : FA K w0 w r d A) (hf : Fr (fun _ => False) w w') : FA K w0 w' r d A := by obtain ⟨M, F, h⟩ := h; exact ⟨M, F, h.quiet hf⟩
theorem FA.bel (h : FA K w0 w r d A) : Below w0.heap.size w0 w := by obtain ⟨M, F, h⟩ := h; exact h.bel
theorem fa_add (h : FA K w0 w r d A) (hf : key.size ≤ 1048576) (hK : K < 1048576) (b : Bool) (hb : (fdG key A).isNone = b) (hA : setG A key () = A') :
    Calls Try.prog 41 #[.pointer (some ⟨r, 0, none⟩), .string key] w fun e w' => e = .returned (.tuple #[.bool b, .int .i64 0]) ∧ FA (K + 1) w0 w' r d A' := by
  obtain ⟨M, F, h⟩ := h
  subst hb hA
  refine (fc_add w0 w K F r d M A key h hf hK).mono ?_
  rintro e w' ⟨h1, M', h2, -⟩
  exact ⟨h1, M', _, h2⟩
theorem fa_del (h : FA K w0 w r d A) (hf : key.size ≤ maxLen) (b : Bool) (hb : (fdG key A).isSome = b) (hA : delG A key = A') :
    Calls Try.prog 64 #[.pointer (some ⟨r, 0, none⟩), .string key] w fun e w' => e = .returned (.bool b) ∧ FA K w0 w' r d A' := by
  obtain ⟨M, F, h⟩ := h
  subst hb hA
  refine (fc_del w0 w K F r d M A key h hf).mono ?_
  rintro e w' ⟨h1, M', h2, -⟩
  exact ⟨h1, M', _, h2⟩
theorem fa_sample (h : FA K w0 w r d A) (n : UInt64) (L : List ByteArray) (hp : L.Perm (ks A)) (hl : L.Pairwise ltS) (v : Value) (hv : sampM L n = v) :
    Calls Try.prog 65 #[.pointer (some ⟨r, 0, none⟩), .int .u64 (wd n)] w fun e w' => e = .returned v ∧ Fr (fun _ => False) w w' := by
  obtain ⟨M, F, h⟩ := h
  subst hv
  exact floSample_any w _ F r d M A n h.ff L hp hl
theorem fa_len (h : FA K w0 w r d A) (n : Int) (hn : (A.length : Int) = n) : Calls Try.prog 66 #[.pointer (some ⟨r, 0, none⟩)] w fun e w' => e = .returned (.int .i64 n) ∧ w = w' := by
  obtain ⟨M, F, h⟩ := h
  subst hn
  exact floLen_any w _ F r d M A h.ff
theorem fa_cost (h : FA K w0 w r d A) (n : Int) (hn : (costM A : Int) = n) : Calls Try.prog 67 #[.pointer (some ⟨r, 0, none⟩)] w fun e w' => e = .returned (.int .i64 n) ∧ w = w' := by
  obtain ⟨M, F, h⟩ := h
  subst hn
  exact floCost_any w _ F r d M A h.ff
theorem fa_mem (h : FA K w0 w r d A) (L : List ByteArray) (hp : L.Perm (ks A)) (hl : L.Pairwise ltS) : MemOf w (.pointer (some ⟨r, 0, none⟩)) L := by
  obtain ⟨M, F, h⟩ := h
  exact h.memL hp hl
end
/-- 'of' at texts that are written down -/
theorem of_lit (w0 w : World) (S : List ByteArray) (hb : Below w0.heap.size w0 w) (hs : ∀ x ∈ S, x.size ≤ 1048576) (hn : S.length ≤ 1000) (A : List Me) (hA : addAll S [] = A) :
    Calls Try.prog 69 #[.slice (some ⟨w.heap.size, 0, none⟩) S.length S.length] (w.alloc (.cells (S.map Value.string).toArray 9)) fun e w' => ∃ r d, e = .returned (.pointer (some ⟨r, 0, none⟩)) ∧ FA S.length w0 w' r d A ∧ Fr (fun _ => False) w w' := by
  subst hA
  have hf : Fr (fun _ => False) w (w.alloc (.cells (S.map Value.string).toArray 9)) := Fr.alloc _ _ _
  refine (of_any _ _ S (txt_lit w S (by unfold maxLen; omega)) hs hn).mono ?_
  rintro e w' ⟨r, d, M, F, h1, h2⟩
  exact ⟨r, d, h1, ⟨M, F, h2.base (hb.trans (hf.below hb.size (fun _ h => h.elim)))⟩, hf.trans (fr_bel h2.bel) (fun _ h _ => h)⟩
/-- three flocks -/
structure Tri (w : World) (pa pb pc : Value) : Prop where
  a : MemOf w pa [kA, kB, kC]
  b : MemOf w pb [kB, kC, kD]
  c : MemOf w pc [kC]
theorem Tri.quiet {w w' : World} {pa pb pc : Value} (h : Tri w pa pb pc) (hf : Fr (fun _ => False) w w') : Tri w' pa pb pc := ⟨h.a.quiet hf, h.b.quiet hf, h.c.quiet hf⟩
theorem mem3 {w : World} {p q s : Value} {P Q S : List ByteArray} (h1 : MemOf w p P) (h2 : MemOf w q Q) (h3 : MemOf w s S) (i : Nat) (x : Value) (L : List ByteArray) (hx : [p, q, s][i]? = some x) (hL : [P, Q, S][i]? = some L) : MemOf w x L := by
  match i with
  | 0 => cases hx; cases hL; exact h1
  | 1 => cases hx; cases hL; exact h2
  | 2 => cases hx; cases hL; exact h3
  | n + 3 => simp at hx
theorem mem2 {w : World} {p q : Value} {P Q : List ByteArray} (h1 : MemOf w p P) (h2 : MemOf w q Q) (i : Nat) (x : Value) (L : List ByteArray) (hx : [p, q][i]? = some x) (hL : [P, Q][i]? = some L) : MemOf w x L := by
  match i with
  | 0 => cases hx; cases hL; exact h1
  | 1 => cases hx; cases hL; exact h2
  | n + 2 => simp at hx
theorem mem1 {w : World} {p : Value} {P : List ByteArray} (h1 : MemOf w p P) (i : Nat) (x : Value) (L : List ByteArray) (hx : [p][i]? = some x) (hL : [P][i]? = some L) : MemOf w x L := by
  match i with
  | 0 => cases hx; cases hL; exact h1
  | n + 1 => simp at hx
theorem memN (w : World) : MemOf w (.pointer none) [] := .inl ⟨rfl, rfl⟩
theorem flrow_nil (w : World) : FlRow w (.slice none 0 0) [] [] := ⟨RdC.nil w 1, rfl, fun i p L h => by simp at h⟩
theorem none_row {w : World} {B : Nat} {v : Value} {l : List ByteArray} (hl : l = []) (h : w.ownsRow B 9 1 v l.length (l.map .string)) : ∃ a c, v = .slice a 0 c := by
  subst hl
  obtain ⟨a, c, h⟩ := ow_sliceN h
  exact ⟨a, c, h⟩
theorem union_none (w : World) : Calls Try.prog 43 #[.slice none 0 0] w fun e w' => ∃ a c, e = .returned (.slice a 0 c) ∧ Fr (fun _ => False) w w' := by
  refine (union_any w _ [] [] (flrow_nil w) (by simp)).mono ?_
  rintro e w' ⟨v, l, rfl, h1, h0, h2, h3⟩
  obtain ⟨a, c, rfl⟩ := none_row (List.length_eq_zero_iff.1 (Nat.le_zero.1 h0)) h2
  exact ⟨a, c, rfl, h3⟩
theorem inter_none (w : World) : Calls Try.prog 44 #[.slice none 0 0] w fun e w' => ∃ a c, e = .returned (.slice a 0 c) ∧ Fr (fun _ => False) w w' := by
  refine (inter_any w _ [] [] (flrow_nil w) (by simp)).mono ?_
  rintro e w' ⟨v, rfl, h2, h3⟩
  obtain ⟨a, c, rfl⟩ := none_row rfl h2
  exact ⟨a, c, rfl, h3⟩
theorem diff_none (w : World) : Calls Try.prog 45 #[.slice none 0 0] w fun e w' => ∃ a c, e = .returned (.slice a 0 c) ∧ Fr (fun _ => False) w w' := by
  refine (diff_any w _ [] [] (flrow_nil w) (by simp)).mono ?_
  rintro e w' ⟨v, rfl, h2, h3⟩
  obtain ⟨a, c, rfl⟩ := none_row rfl h2
  exact ⟨a, c, rfl, h3⟩
theorem infoB : (Try.prog.info? 5).map (fun i => (i.zero, i.size, i.bytes)) = some (some (.int .u8 0), 1, 1) := by kernel_rfl
/-- so many bytes made -/
theorem made_bytes (n : Nat) (hn : n ≤ 2097152) : ∃ (cs : Array Value) (l : List UInt8), l.length = n ∧ (∀ w : World, (Instr.makeSlice 109 (.int .i64 n) (.int .i64 n)).run Try.prog w = .ok (.slice (some ⟨w.heap.size, 0, none⟩) n n) (w.alloc (.cells cs 5))) ∧
    ∀ w : World, RdC (w.alloc (.cells cs 5)) 1 (.slice (some ⟨w.heap.size, 0, none⟩) n n) l.length (l.map u8) := by
  obtain ⟨i0, hi, hz0, hz1, hz2⟩ := info_parts infoB
  refine ⟨((List.replicate n (0 : UInt8)).map u8).toArray, List.replicate n 0, List.length_replicate .., fun w => ?_, fun w => ?_⟩
  · have h := run_make (P := Try.prog) (w := w) 109 5 i0 (.int .u8 0) Try.underlying109 hi hz0 .i64 .i64 n n (by omega) (by omega) (by rw [hz2]; omega) (by omega)
    rw [h, hz1, Nat.mul_one, Int.toNat_natCast, show (Value.int IntKind.u8 0).cells = #[.int .u8 0] from rfl, madeCells_one, List.map_replicate]
    rfl
  · rw [List.length_replicate]
    have := RdC.of_owns (World.ownsRow_lit (base := w.heap.size) (e := 5) (size := 1) w ((List.replicate n (0 : UInt8)).map u8).toArray n (Nat.le_refl _) (by unfold maxLen; omega) (by simp))
    exact this
theorem kn_mod : sampM [kA, kB] 5 = .tuple #[.string ⟨#[98]⟩, .bool true] := sampM_at (k := 1) (by decide) rfl
theorem kn_scan : scanK ⟨3, 0, [], 0, [], 0, 0⟩ (3 : UInt64).toNat 10 = ((0, []) : Nat × List ByteArray) := by unfold scanK; rw [if_pos rfl]
theorem kn_none : sampM [] 7 = .tuple #[.string ⟨#[]⟩, .bool false] := rfl
set_option maxRecDepth 100000 in
set_option maxHeartbeats 8000000 in
theorem flockKnown_walk (w : World) : Calls Try.prog 14 #[] w fun e w' => e = .returned (.bool true) ∧ Below w.heap.size w w' := by
  obtain ⟨cs1, l1, hl1, hmk1, hrd1⟩ := made_bytes 1048577 (by decide)
  obtain ⟨cs2, l2, hl2, hmk2, hrd2⟩ := made_bytes 1048576 (by decide)
  have HL1 := Lib.hid hl1
  have HL2 := Lib.hid hl2
  have HRD1 := Lib.hid hrd1
  have HRD2 := Lib.hid hrd2
  have HMK1 := Lib.hid hmk1
  have HMK2 := Lib.hid hmk2
  clear hl1 hl2 hrd1 hrd2 hmk1 hmk2
  go_enter Try.func14, Try.ntmps14
  go_wp2_with fail
  refine (wakes10_any w).mono ?_
  rintro e w0 ⟨rfl, hb0⟩
  have HB0 := Lib.hid hb0
  clear hb0
  go_wp2_with fail
  refine (of_lit w w0 [kB, kA] HB0.out (by decide) (by decide) [(kB, ()), (kA, ())] (by decide)).mono ?_
  rintro e w1 ⟨r, d, rfl, h1, -⟩
  have H1 := Lib.hid h1
  clear h1 HB0
  go_wp2_with fail
  refine (fa_add (key := kB) H1.out (by decide) (by decide) false (by decide) (A' := [(kB, ()), (kA, ())]) (by decide)).mono ?_
  rintro e w2 ⟨rfl, h2⟩
  have H2 := Lib.hid h2
  clear h2 H1
  go_wp2_with fail
  refine (fa_sample H2.out 5 [kA, kB] wk_perm wk_rise _ kn_mod).mono ?_
  rintro e w3 ⟨rfl, hf3⟩
  have H3 := Lib.hid (H2.out.quiet hf3)
  clear hf3 H2
  go_wp2_with fail
  refine (fa_del (key := kA) H3.out (by decide) true (by decide) (A' := [(kB, ())]) (by decide)).mono ?_
  rintro e w4 ⟨rfl, h4⟩
  have H4 := Lib.hid h4
  clear h4 H3
  go_wp2_with fail
  refine (fa_del (key := kA) H4.out (by decide) false (by decide) (A' := [(kB, ())]) (by decide)).mono ?_
  rintro e w5 ⟨rfl, h5⟩
  have H5 := Lib.hid h5
  clear h5 H4
  go_wp2_with fail
  refine (fa_cost H5.out 25 (by decide)).mono ?_
  rintro e w' ⟨rfl, rfl⟩
  go_wp2_with fail
  refine (of_lit w w5 [kA, kB, kC] H5.out.bel (by decide) (by decide) [(kA, ()), (kB, ()), (kC, ())] (by decide)).mono ?_
  rintro e w6 ⟨ra, da, rfl, ha, hf6⟩
  have HA := Lib.hid (fa_mem ha [kA, kB, kC] (List.Perm.refl _) rise_abc)
  have H6 := Lib.hid (H5.out.quiet hf6)
  clear ha hf6 H5
  go_wp2_with fail
  refine (of_lit w w6 [kB, kC, kD] H6.out.bel (by decide) (by decide) [(kB, ()), (kC, ()), (kD, ())] (by decide)).mono ?_
  rintro e w7 ⟨rb, db, rfl, hb, hf7⟩
  have HB := Lib.hid (fa_mem hb [kB, kC, kD] (List.Perm.refl _) rise_bcd)
  have HA7 := Lib.hid (HA.out.quiet hf7)
  have H7 := Lib.hid (H6.out.quiet hf7)
  clear hb hf7 H6 HA
  go_wp2_with fail
  refine (of_lit w w7 [kC] H7.out.bel (by decide) (by decide) [(kC, ())] (by decide)).mono ?_
  rintro e w8 ⟨rc, dc, rfl, hc, hf8⟩
  have HT8 : Hid (Tri w8 (.pointer (some ⟨ra, 0, none⟩)) (.pointer (some ⟨rb, 0, none⟩)) (.pointer (some ⟨rc, 0, none⟩))) := ⟨HA7.out.quiet hf8, HB.out.quiet hf8, fa_mem hc [kC] (List.Perm.refl _) (List.pairwise_singleton _ _)⟩
  have H8 := Lib.hid (H7.out.quiet hf8)
  clear hc hf8 H7 HA7 HB

  go_wp2_with fail
  refine (union_lit w8 [.pointer (some ⟨ra, 0, none⟩), .pointer (some ⟨rb, 0, none⟩), .pointer (some ⟨rc, 0, none⟩)] [[kA, kB, kC], [kB, kC, kD], [kC]] [kA, kB, kC, kD] (by unfold maxLen; simp) rfl (mem3 HT8.out.a HT8.out.b HT8.out.c) (by decide) ⟨rise_abcd, by simp [or_assoc, or_comm, or_left_comm]⟩).mono ?_
  rintro e w9 ⟨a, c, rfl, hr, hf9⟩
  have HT9 := Lib.hid (HT8.out.quiet hf9)
  have H9 := Lib.hid (H8.out.quiet hf9)
  have HR := Lib.hid hr
  clear hr
  clear hf9 HT8 H8
  go_wp2_with fail
  refine (same_lit w9 _ [kA, kB, kC, kD] [kA, kB, kC, kD] HR.out (by decide) true (decide_eq_true rfl)).mono ?_
  rintro e w10 ⟨rfl, hf10⟩
  have HT10 := Lib.hid (HT9.out.quiet hf10)
  have H10 := Lib.hid (H9.out.quiet hf10)
  clear HR
  clear hf10 HT9 H9
  go_wp2_with fail
  refine (inter_lit w10 [.pointer (some ⟨ra, 0, none⟩), .pointer (some ⟨rb, 0, none⟩), .pointer (some ⟨rc, 0, none⟩)] [[kA, kB, kC], [kB, kC, kD], [kC]] [kC] (by unfold maxLen; simp) rfl (mem3 HT10.out.a HT10.out.b HT10.out.c) (by decide) (by decide)).mono ?_
  rintro e w11 ⟨a, c, rfl, hr, hf11⟩
  have HT11 := Lib.hid (HT10.out.quiet hf11)
  have H11 := Lib.hid (H10.out.quiet hf11)
  have HR := Lib.hid hr
  clear hr
  clear hf11 HT10 H10
  go_wp2_with fail
  refine (same_lit w11 _ [kC] [kC] HR.out (by decide) true (decide_eq_true rfl)).mono ?_
  rintro e w12 ⟨rfl, hf12⟩
  have HT12 := Lib.hid (HT11.out.quiet hf12)
  have H12 := Lib.hid (H11.out.quiet hf12)
  clear HR
  clear hf12 HT11 H11
  go_wp2_with fail
  refine (diff_lit w12 [.pointer (some ⟨ra, 0, none⟩), .pointer (some ⟨rb, 0, none⟩), .pointer (some ⟨rc, 0, none⟩)] [[kA, kB, kC], [kB, kC, kD], [kC]] [kA] (by unfold maxLen; simp) rfl (mem3 HT12.out.a HT12.out.b HT12.out.c) (by decide) (by decide)).mono ?_
  rintro e w13 ⟨a, c, rfl, hr, hf13⟩
  have HT13 := Lib.hid (HT12.out.quiet hf13)
  have H13 := Lib.hid (H12.out.quiet hf13)
  have HR := Lib.hid hr
  clear hr
  clear hf13 HT12 H12
  go_wp2_with fail
  refine (same_lit w13 _ [kA] [kA] HR.out (by decide) true (decide_eq_true rfl)).mono ?_
  rintro e w14 ⟨rfl, hf14⟩
  have HT14 := Lib.hid (HT13.out.quiet hf14)
  have H14 := Lib.hid (H13.out.quiet hf14)
  clear HR
  clear hf14 HT13 H13
  go_wp2_with fail
  refine (diff_lit w14 [.pointer (some ⟨rb, 0, none⟩), .pointer (some ⟨ra, 0, none⟩), .pointer (some ⟨rc, 0, none⟩)] [[kB, kC, kD], [kA, kB, kC], [kC]] [kD] (by unfold maxLen; simp) rfl (mem3 HT14.out.b HT14.out.a HT14.out.c) (by decide) (by decide)).mono ?_
  rintro e w15 ⟨a, c, rfl, hr, hf15⟩
  have HT15 := Lib.hid (HT14.out.quiet hf15)
  have H15 := Lib.hid (H14.out.quiet hf15)
  have HR := Lib.hid hr
  clear hr
  clear hf15 HT14 H14
  go_wp2_with fail
  refine (same_lit w15 _ [kD] [kD] HR.out (by decide) true (decide_eq_true rfl)).mono ?_
  rintro e w16 ⟨rfl, hf16⟩
  have HT16 := Lib.hid (HT15.out.quiet hf16)
  have H16 := Lib.hid (H15.out.quiet hf16)
  clear HR
  clear hf16 HT15 H15
  go_wp2_with fail
  refine (union_none w16).mono ?_
  rintro e w17 ⟨a, c, rfl, hf17⟩
  have HT17 := Lib.hid (HT16.out.quiet hf17)
  have H17 := Lib.hid (H16.out.quiet hf17)
  clear hf17 HT16 H16
  go_wp2_with fail
  refine (inter_none w17).mono ?_
  rintro e w18 ⟨a, c, rfl, hf18⟩
  have HT18 := Lib.hid (HT17.out.quiet hf18)
  have H18 := Lib.hid (H17.out.quiet hf18)
  clear hf18 HT17 H17
  go_wp2_with fail
  refine (diff_none w18).mono ?_
  rintro e w19 ⟨a, c, rfl, hf19⟩
  have HT19 := Lib.hid (HT18.out.quiet hf19)
  have H19 := Lib.hid (H18.out.quiet hf19)
  clear hf19 HT18 H18
  go_wp2_with fail
  refine (inter_lit w19 [.pointer (some ⟨ra, 0, none⟩), .pointer none] [[kA, kB, kC], []] [] (by unfold maxLen; simp) rfl (mem2 HT19.out.a (memN _)) (by decide) (by decide)).mono ?_
  rintro e w20 ⟨a, c, rfl, hr, hf20⟩
  have HT20 := Lib.hid (HT19.out.quiet hf20)
  have H20 := Lib.hid (H19.out.quiet hf20)
  have HR := Lib.hid hr
  clear hr
  clear hf20 HT19 H19
  clear HR
  go_wp2_with fail
  refine (diff_lit w20 [.pointer (some ⟨ra, 0, none⟩), .pointer none] [[kA, kB, kC], []] [kA, kB, kC] (by unfold maxLen; simp) rfl (mem2 HT20.out.a (memN _)) (by decide) (by decide)).mono ?_
  rintro e w21 ⟨a, c, rfl, hr, hf21⟩
  have HT21 := Lib.hid (HT20.out.quiet hf21)
  have H21 := Lib.hid (H20.out.quiet hf21)
  have HR := Lib.hid hr
  clear hr
  clear hf21 HT20 H20
  go_wp2_with fail
  refine (same_lit w21 _ [kA, kB, kC] [kA, kB, kC] HR.out (by decide) true (decide_eq_true rfl)).mono ?_
  rintro e w22 ⟨rfl, hf22⟩
  have HT22 := Lib.hid (HT21.out.quiet hf22)
  have H22 := Lib.hid (H21.out.quiet hf22)
  clear HR
  clear hf22 HT21 H21
  go_wp2_with fail
  refine (union_lit w22 [.pointer none] [[]] [] (by unfold maxLen; simp) rfl (mem1 (memN _)) (by decide) ⟨List.Pairwise.nil, by simp⟩).mono ?_
  rintro e w23 ⟨a, c, rfl, hr, hf23⟩
  have HT23 := Lib.hid (HT22.out.quiet hf23)
  have H23 := Lib.hid (H22.out.quiet hf23)
  have HR := Lib.hid hr
  clear hr
  clear hf23 HT22 H22
  clear HR HT23
  have hmk1 : ∀ w : World, (Instr.makeSlice 109 (.int .i64 1048577) (.int .i64 1048577)).run Try.prog w = .ok (.slice (some ⟨w.heap.size, 0, none⟩) 1048577 1048577) (w.alloc (.cells cs1 5)) := HMK1.out
  go_wp2_with (refine wpl_toString rfl (.tmp 138) 109 9 5 rfl _ l1 rfl Try.underlying109 Try.underlying9 Try.underlying5 (HRD1.out _) ?_)
  have HX : Hid (Fr (fun _ => False) w23 (w23.alloc (.cells cs1 5))) := Fr.alloc _ _ _
  obtain ⟨wa, hwa⟩ : ∃ wa, w23.alloc (.cells cs1 5) = wa := ⟨_, rfl⟩
  rw [hwa] at HX ⊢
  have HXA := Lib.hid (H23.out.quiet HX.out)
  have HLO : Hid (1048576 < (ByteArray.mk l1.toArray).size) := by show _ < _; rw [show (ByteArray.mk l1.toArray).size = l1.length from List.size_toArray]; have := HL1.out; omega
  have HLM : Hid ((ByteArray.mk l1.toArray).size ≤ maxLen) := by show _ ≤ _; rw [show (ByteArray.mk l1.toArray).size = l1.length from List.size_toArray]; have := HL1.out; unfold maxLen; omega
  clear hwa HX H23 hmk1
  go_wp2_with fail
  refine (floAdd_long wa r _ HLM.out HLO.out).mono ?_
  rintro e w' ⟨rfl, rfl⟩
  have hmk2 : ∀ w : World, (Instr.makeSlice 109 (.int .i64 1048576) (.int .i64 1048576)).run Try.prog w = .ok (.slice (some ⟨w.heap.size, 0, none⟩) 1048576 1048576) (w.alloc (.cells cs2 5)) := HMK2.out
  go_wp2_with (refine wpl_toString rfl (.tmp 145) 109 9 5 rfl _ l2 rfl Try.underlying109 Try.underlying9 Try.underlying5 (HRD2.out _) ?_)
  have HX : Hid (Fr (fun _ => False) wa (wa.alloc (.cells cs2 5))) := Fr.alloc _ _ _
  obtain ⟨wb, hwb⟩ : ∃ wb, wa.alloc (.cells cs2 5) = wb := ⟨_, rfl⟩
  rw [hwb] at HX ⊢
  have HXB := Lib.hid (HXA.out.quiet HX.out)
  obtain ⟨sb, hsb⟩ : ∃ s : ByteArray, ByteArray.mk l2.toArray = s := ⟨_, rfl⟩
  have hsz : sb.size = 1048576 := by rw [← hsb, show (ByteArray.mk l2.toArray).size = l2.length from List.size_toArray]; exact HL2.out
  have hne : fdG sb [(kB, ())] = none := by
    have h2 : kB ≠ sb := fun e => by rw [← e] at hsz; exact absurd hsz (by decide)
    cases hq : fdG sb [(kB, ())] with
    | none => rfl
    | some i =>
      obtain ⟨u, hu⟩ := fdG_some hq
      match i with
      | 0 => cases hu; exact absurd rfl h2
      | n + 1 => simp at hu
  have HNE := Lib.hid hne
  have HSB := Lib.hid hsz
  rw [hsb]
  clear hwb HX HXA hmk2 hsb hne hsz
  go_wp2_with fail
  refine (fa_add (key := sb) HXB.out (Nat.le_of_eq HSB.out) (by decide) true (by rw [HNE.out]; rfl) (A' := [(kB, ()), (sb, ())]) (by rw [setG_none HNE.out]; rfl)).mono ?_
  rintro e wc ⟨rfl, hc⟩
  have HC := Lib.hid hc
  clear hc HXB
  go_wp2_with fail
  refine (floNew_any wc 3).mono ?_
  rintro e wd1 ⟨re, de, rfl, h1, h2⟩
  have HE := Lib.hid h1
  have HC1 := Lib.hid (HC.out.quiet (fr_bel h2))
  clear h1 h2 HC
  go_wp2_with fail
  refine (floSample_any wd1 _ _ re de _ [] 7 HE.out [] (List.Perm.refl _) List.Pairwise.nil).mono ?_
  rintro e we ⟨rfl, hfe⟩
  have HE2 := Lib.hid (HE.out.quiet hfe)
  have HC2 := Lib.hid (HC1.out.quiet hfe)
  rw [kn_none]
  clear hfe HE HC1
  go_wp2_with fail
  refine (floScan_any we _ _ re de _ [] 3 10 HE2.out (by unfold InI; decide)).mono ?_
  rw [kn_scan]
  rintro e wf ⟨vs, rfl, hq, hbf⟩
  dsimp only at hq ⊢
  have hq2 : wf.ownsRow we.heap.size 9 1 vs ([] : List ByteArray).length (([] : List ByteArray).map .string) := hq
  obtain ⟨va, vc, rfl⟩ := none_row rfl hq2
  have HC3 := Lib.hid (HC2.out.quiet (fr_bel hbf))
  clear hq hq2 hbf HE2 HC2
  go_wp2_with fail
  refine (fa_len HC3.out 2 rfl).mono ?_
  rintro e w' ⟨rfl, rfl⟩
  go_wp2_with fail
  refine (floAdd_nil wf _).mono ?_
  rintro e w' ⟨rfl, rfl⟩
  go_wp2_with fail
  refine (floScan_nil _ _ wf).mono ?_
  rintro e w' ⟨rfl, rfl⟩
  go_wp2_with fail
  refine (floHas_nil _ wf).mono ?_
  rintro e w' ⟨rfl, rfl⟩
  go_wp2_with fail
  refine (floDel_nil _ wf).mono ?_
  rintro e w' ⟨rfl, rfl⟩
  go_wp2_with fail
  refine (floLen_nil wf).mono ?_
  rintro e w' ⟨rfl, rfl⟩
  go_wp2_with fail
  refine (floCost_nil wf).mono ?_
  rintro e w' ⟨rfl, rfl⟩
  go_wp2_with fail
  refine (members_nil wf).mono ?_
  rintro e w' ⟨rfl, rfl⟩
  go_wp2_with fail
  go_ret
  exact ⟨rfl, HC3.out.bel⟩
end Go.Proofs.Ytgomilodeaafdaa

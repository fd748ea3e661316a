/- Scanning a dict of texts, and ranging over it. No condition. -/
import Derived.Test.YtgomilodeaafdaaBs
import Derived.Test.YtgomilodeaafdaaBb
import Derived.Deep.Cut
import Derived.Deep.CutBlock
import Derived.Deep.QuietTactic
import Derived.BigQuiet
import Derived.Test.YtgomilodeaafdaaBa
import Derived.RangeFuncNested
import Derived.RangeFuncBound
import Derived.RangeFuncCalls
import Derived.RangeFuncLeaves
import Derived.RangeFuncBox
import Derived.Shelf.Abstract
import Derived.Shelf.RegionOpen
import Derived.OwnWalkIn
import Derived.TacticsInMore
import Derived.LoopNIn
import Derived.LoopIn
import Derived.RegionIn
import Derived.BigRegionIn
import Derived.Sort.QuietIn
import Derived.Outline
import Derived.Sort.CutIn
import Derived.Maps.AppendAt
namespace Go.Proofs.Ytgomilodeaafdaa.Ds
open Go.RowKit
/-- what scanning keeps: the dict as it was; the keys that were told, the dict's pointer and the cursor, each in a box of its own -/
structure Sc (w0 : World) (w : World) (d : Nat) (M : DM) (kb db cb : Nat) (c : UInt64) (v : Value) (S : List ByteArray) : Prop where
  kk : Bx w kb 39 v
  row : RowS w0.heap.size w v S
  dd : Bx w db 135 (.pointer (some ⟨d, 0, none⟩))
  cc : Bx w cb 22 (.int .u64 (wd c))
  dat : DAt w0 d M
  fr : Fr (fun _ => False) w0 w
  lk : w0.heap.size ≤ kb
  lc : w0.heap.size ≤ cb
section
variable {w0 w w' : World} {d : Nat} {M : DM} {kb db cb : Nat} {c : UInt64} {v : Value} {S : List ByteArray}
theorem Sc.now (h : Sc w0 w d M kb db cb c v S) : DAt w d M := h.dat.fr h.fr (fun _ _ h => h)
theorem Sc.quiet (h : Sc w0 w d M kb db cb c v S) (hf : Fr (fun _ => False) w w') : Sc w0 w' d M kb db cb c v S :=
  ⟨h.kk.fr hf (fun h => h), ow_fr h.row hf (fun _ _ h => h), h.dd.fr hf (fun h => h), h.cc.fr hf (fun h => h), h.dat, h.fr.trans hf (fun _ h _ => h), h.lk, h.lc⟩
theorem Sc.below (h : Sc w0 w d M kb db cb c v S) (hb : Below w.heap.size w w') : Sc w0 w' d M kb db cb c v S :=
  h.quiet ⟨hb.os, hb.tape, hb.output, hb.size, fun k hk _ => hb.block k hk⟩
end
theorem Sc.grown {w0 w w' : World} {d : Nat} {M : DM} {kb db cb : Nat} {c : UInt64} {v : Value} {S : List ByteArray} (h : Sc w0 w d M kb db cb c v S) (hg : w.grownBy w' v.ownBlock) {v' : Value} {n : Nat} {xs : List Value} (_ : w'.ownsRow w0.heap.size 9 1 v' n xs) :
    Bx w' kb 39 v ∧ Bx w' db 135 (.pointer (some ⟨d, 0, none⟩)) ∧ Bx w' cb 22 (.int .u64 (wd c)) ∧ Fr (fun _ => False) w0 w' := by
  have hf := Fr.of_grownBy hg
  refine ⟨h.kk.fr hf (h.kk.not_row (by decide) h.row), h.dd.fr hf (h.dd.not_row (by decide) h.row), h.cc.fr hf (h.cc.not_row (by decide) h.row), h.fr.trans hf (fun i hi hl => by have := (h.row.lt i hi).1; omega)⟩
/-- the keys grown, and stored back -/
theorem Sc.put {w0 w w' : World} {d : Nat} {M : DM} {kb db cb : Nat} {c : UInt64} {v : Value} {S S' : List ByteArray} (h : Sc w0 w d M kb db cb c v S) (hg : w.grownBy w' v.ownBlock) {v' : Value} (hr : RowS w0.heap.size w' v' S') :
    Sc w0 (w'.setCell ⟨kb, 0, none⟩ v') d M kb db cb c v' S' := by
  obtain ⟨g1, g2, g3, g4⟩ := h.grown hg hr
  have hs := Fr.setCell w' ⟨kb, 0, none⟩ v'
  have hdk : db ≠ kb := by
    intro e
    have h1 := h.dd
    rw [e] at h1
    have := Eq.trans (Eq.symm h1) h.kk
    simp only [Option.some.injEq, Obj.cells.injEq] at this
    exact absurd this.2.1 (by decide)
  have hck : cb ≠ kb := by
    intro e
    have h1 := h.cc
    rw [e] at h1
    have := Eq.trans (Eq.symm h1) h.kk
    simp only [Option.some.injEq, Obj.cells.injEq] at this
    exact absurd this.2.1 (by decide)
  refine ⟨g1.set v', ow_fr hr hs (fun g hgv e => g1.not_row (by decide) hr (by rw [hgv]; exact congrArg some e)), g2.fr hs hdk, g3.fr hs hck, h.dat, g4.trans hs (fun i hi hl => by have h1 := h.lk; have h2 : i = kb := hi; omega), h.lk, h.lc⟩
/-- the cursor stored -/
theorem Sc.setc {w0 w : World} {d : Nat} {M : DM} {kb db cb : Nat} {c : UInt64} {v : Value} {S : List ByteArray} (h : Sc w0 w d M kb db cb c v S) (c' : UInt64) (n : Int) (hn : n = wd c') : Sc w0 (w.setCell ⟨cb, 0, none⟩ (.int .u64 n)) d M kb db cb c' v S := by
  subst hn
  have hs := Fr.setCell w ⟨cb, 0, none⟩ (.int .u64 (wd c'))
  have hkc : kb ≠ cb := by
    intro e
    have h1 := h.kk
    rw [e] at h1
    have := Eq.trans (Eq.symm h1) h.cc
    simp only [Option.some.injEq, Obj.cells.injEq] at this
    exact absurd this.2.1 (by decide)
  have hdc : db ≠ cb := by
    intro e
    have h1 := h.dd
    rw [e] at h1
    have := Eq.trans (Eq.symm h1) h.cc
    simp only [Option.some.injEq, Obj.cells.injEq] at this
    exact absurd this.2.1 (by decide)
  exact ⟨h.kk.fr hs hkc, ow_fr h.row hs (fun g hgv e => h.cc.not_row (by decide) h.row (by rw [hgv]; exact congrArg some e)), h.dd.fr hs hdc, h.cc.set _, h.dat, h.fr.trans hs (fun i hi hl => by have h1 := h.lc; have h2 : i = cb := hi; omega), h.lk, h.lc⟩
set_option maxRecDepth 100000 in
set_option maxHeartbeats 4000000 in
theorem bk_any (w0 w : World) (d : Nat) (M : DM) (kb db cb : Nat) (c : UInt64) (v : Value) (S : List ByteArray) (table n : Int) (h : Sc w0 w d M kb db cb c v S) (hn : 0 < n) (hn2 : n ≤ 35184372088832) (hc : M.n ≤ 4398046511104) (hS : S.length ≤ 4398046511104) :
    Calls Try.prog 163 #[.int .i64 table, .int .i64 n, .pointer (some ⟨kb, 0, none⟩), .pointer (some ⟨db, 0, none⟩), .pointer (some ⟨cb, 0, none⟩)] w fun e w' =>
      e = .returned (.tuple #[]) ∧ ∃ v', Sc w0 w' d M kb db cb c v' (S ++ bucketK M table ((c.toNat % n.toNat : Nat) : Int)) := by
  have HS := Lib.hid h
  have k1 := h.kk.cell
  have k2 := h.dd.cell
  have k3 := h.cc.cell
  have z1 := h.kk.free
  have hu : IntKind.u64.wrap n = n := IntWalk.u64_in _ (by omega)
  have hc8 := c.toNat_lt
  obtain ⟨N, rfl⟩ := Int.eq_ofNat_of_zero_le (Int.le_of_lt hn)
  have hN : 0 < N := by omega
  rw [Int.toNat_natCast]
  have hm : (wd c).tmod (N : Int) = ((c.toNat % N : Nat) : Int) := by
    show (((c.toNat : Nat) : Int)).tmod (N : Int) = _
    rw [← Int.ofNat_tmod]
  obtain ⟨q, hq⟩ : ∃ q, c.toNat % N = q := ⟨_, rfl⟩
  have hqN : q < N := by rw [← hq]; exact Nat.mod_lt _ hN
  rw [hq] at hm ⊢
  have hq2 : IntKind.i64.wrap (q : Int) = (q : Int) := IntWalk.i64_in _ (by omega)
  have hNz : ((N : Int) == 0) = false := beq_eq_false_iff_ne.2 (by omega)
  have hN0 : ¬ N = 0 := by omega
  have hN1 : ¬ (N : Int) = 0 := by omega
  obtain ⟨i0, hi, hz0, hz1, hz2⟩ := info_parts info_str
  have HI := Lib.hid hi
  have HZ0 := Lib.hid hz0
  have HZ1 := Lib.hid hz1
  have HZ2 := Lib.hid hz2
  clear hi hz0 hz1 hz2 hq h
  go_enter Try.func163, Try.ntmps163
  have HB0 := Lib.hid (fun (W : World) (h : Sc w0 W d M kb db cb c v S) => bucket_any W d M table (q : Int) h.now hc)
  have HS1 := Lib.hid (HS.out.quiet (Fr.drew (fun _ => False) w))
  obtain ⟨K, hK⟩ : ∃ K, bucketK M table (q : Int) = K := ⟨_, rfl⟩
  have hKl : K.length ≤ 4398046511104 := by rw [← hK]; exact Nat.le_trans (bucketK_len HS.out.dat.inv table q) hc
  rw [hK] at HB0 ⊢
  clear hK
  go_region_law (first
      | (go_simp; go_at_call 164; ((with_reducible refine (HB0.out _ HS1.out).mono ?_); rintro e w1 ⟨vb, rfl, hr1, hb1⟩; have HS2 := Lib.hid (HS1.out.below hb1); have HR1 := Lib.hid (RdC.of_owns hr1); have j1 := HS2.out.kk.cell; have j2 := HS2.out.dd.cell; have j3 := HS2.out.cc.cell; clear hr1 hb1; dsimp only))
      | (refine step_append (by rfl) (.tmp 7) (.tmp 15) 39 (by rfl) w0.heap.size 9 i0 (.string ⟨#[]⟩) 1 16 Try.underlying39 HI.out HZ0.out HZ1.out HZ2.out rfl (by decide) v S.length _ (by rfl) HS2.out.row vb K.length _ (by rfl) HR1.out (one_strs _) (by unfold maxLen; omega) (by omega) HS2.out.fr.size ?_; intro v2 w2 hown hgrow; obtain ⟨a2, c2, rfl⟩ := owns_slice hown; have HS3 := Lib.hid (HS2.out.grown hgrow hown); have z2 := HS3.out.1.free; have m1 := HS3.out.1.cell; have m2 := HS3.out.2.1.cell; have m3 := HS3.out.2.2.1.cell; have HO := Lib.hid hown; have HG := Lib.hid hgrow; clear hown hgrow))
  all_goals
    refine bodyPost_end (results_none rfl _ _ _) rfl ?_
    exact ⟨rfl, _, HS2.out.put HG.out (rowS_app HO.out)⟩
end Go.Proofs.Ytgomilodeaafdaa.Ds
namespace Go.Proofs.Ytgomilodeaafdaa.Ds
open Go.RowKit
def ScanPost (w : World) (R : Nat × List ByteArray) (e : Ending) (w' : World) : Prop := ∃ v, e = .returned (.tuple #[.int .u64 (R.1 : Int), v]) ∧ RowS w.heap.size w' v R.2 ∧ Below w.heap.size w w'
theorem u64_nat (n : Nat) (h : n < 18446744073709551616) : (UInt64.ofNat n).toNat = n := by rw [UInt64.toNat_ofNat']; omega
theorem wd_nat (n : Nat) (h : n < 18446744073709551616) : wd (UInt64.ofNat n) = (n : Int) := congrArg Nat.cast (u64_nat n h)
set_option maxRecDepth 100000 in
set_option maxHeartbeats 4000000 in
theorem next_any (w : World) (d : Nat) (M : DM) (c : UInt64) (count : Int) (h : DAt w d M) (hn : M.n ≤ 2199023255552) (hcl : -9223372036854775808 ≤ count) (hch : count ≤ 9223372036854775807) :
    Calls Try.prog 105 #[.pointer (some ⟨d, 0, none⟩), .int .u64 (wd c), .int .i64 count] w (ScanPost w (scanK M c.toNat count)) := by
  have H := Lib.hid h
  have hlo := h.lold
  have hly := h.lyoung
  obtain ⟨Res, hRes⟩ : ∃ R, scanK M c.toNat count = R := ⟨_, rfl⟩
  rw [hRes]
  have HRes := Lib.hid hRes
  clear hRes
  by_cases ho : M.old = []
  · have hr : Res = (0, []) := by rw [← HRes.out]; unfold scanK; rw [if_pos ho]
    subst hr
    have hsz := sizes_any
    have HSZ := Lib.hid (fun (W : World) (h : DAt W d M) => sizes_any W d M h)
    rw [ho] at HSZ
    have hd1 : DAt ((w.alloc (.cells #[.pointer (some ⟨d, 0, none⟩)] 135)).alloc (.cells #[.int .u64 (wd c)] 22)) d M := (h.fr (Fr.alloc (fun _ => False) _ _) (fun _ _ h => h)).fr (Fr.alloc (fun _ => False) _ _) (fun _ _ h => h)
    have HD1 := Lib.hid hd1
    have hb1 : Below w.heap.size w ((w.alloc (.cells #[.pointer (some ⟨d, 0, none⟩)] 135)).alloc (.cells #[.int .u64 (wd c)] 22)) := ((Below.refl _ _).alloc (Nat.le_refl _) _).alloc (by simp) _
    have HB1 := Lib.hid hb1
    clear hd1 hb1 h hsz ho
    go_enter Try.func105, Try.ntmps105
    go_wp2_with fail
    refine (HSZ.out _ HD1.out).mono ?_
    rintro e w1 ⟨rfl, m1, rfl⟩
    go_wp2_with fail
    go_ret2
    exact ⟨_, rfl, World.ownsRow_nil _ _ _ _, HB1.out.trans ((Fr.drewN (fun _ => False) _ m1).below HB1.out.size (fun _ h => h.elim))⟩
  obtain ⟨T, hT⟩ : ∃ T, scanT M (max count 1).toNat = T := ⟨_, rfl⟩
  have ht := tabs h.inv ho (max count 1).toNat
  rw [hT] at ht
  obtain ⟨g, hg⟩ : ∃ g, T.g = g := ⟨_, rfl⟩
  obtain ⟨r, hr⟩ : ∃ r, T.r = r := ⟨_, rfl⟩
  rw [hg, hr] at ht
  have hTG : ∀ q : Nat, T.G q = bucketK M (whichM M : Nat) (q : Int) := fun q => by rw [← hT]; rfl
  have hTS : ∀ c : Nat, T.S c = if smallM M = 0 then [] else bucketK M ((1 - whichM M : Nat) : Int) ((c % smallM M : Nat) : Int) := fun q => by rw [← hT]; rfl
  have hTc : T.cnt = (max count 1).toNat := by rw [← hT]; rfl
  have hres : T.nxt c.toNat [] = Res := by rw [← HRes.out, ← hT]; unfold scanK; rw [if_neg ho]
  have HT := Lib.hid ht
  have HTG := Lib.hid hTG
  have HTS := Lib.hid hTS
  have HTC := Lib.hid hTc
  have HRS := Lib.hid hres
  have HSZ := Lib.hid (fun (W : World) (h : DAt W d M) => sizes_any W d M h)
  have hop : 0 < M.old.length := List.length_pos_iff.2 ho
  have hgr : greatM M ≤ 35184372088832 ∧ 0 < greatM M ∧ smallM M ≤ 35184372088832 := by
    unfold greatM smallM
    split <;> omega
  have hw01 := which_01 M
  have hd1 : DAt ((w.alloc (.cells #[.pointer (some ⟨d, 0, none⟩)] 135)).alloc (.cells #[.int .u64 (wd c)] 22)) d M := (h.fr (Fr.alloc (fun _ => False) _ _) (fun _ _ h => h)).fr (Fr.alloc (fun _ => False) _ _) (fun _ _ h => h)
  have HD1 := Lib.hid hd1
  clear ht hTG hTS hTc hres hd1 h hT ho
  go_enter Try.func105, Try.ntmps105
  go_wp2_with fail
  refine (HSZ.out _ HD1.out).mono ?_
  rintro e w1 ⟨rfl, m1, rfl⟩
  obtain ⟨A, hA⟩ : ∃ n, M.old.length = n := ⟨_, rfl⟩
  obtain ⟨Y, hY⟩ : ∃ n, M.young.length = n := ⟨_, rfl⟩
  have hsm : smallM M = (if Y < A then Y else A) ∧ greatM M = (if Y < A then A else Y) ∧ whichM M = (if Y < A then 0 else 1) := by unfold smallM greatM whichM; rw [hA, hY]; exact ⟨rfl, rfl, rfl⟩
  obtain ⟨s1, s2, s3⟩ := hsm
  have HS1 := Lib.hid s1
  have HS2 := Lib.hid s2
  have HS3 := Lib.hid s3
  obtain ⟨Sm, hSm⟩ : ∃ n, smallM M = n := ⟨_, rfl⟩
  obtain ⟨Gr, hGr⟩ : ∃ n, greatM M = n := ⟨_, rfl⟩
  obtain ⟨Wh, hWh⟩ : ∃ n, whichM M = n := ⟨_, rfl⟩
  rw [hSm] at HS1
  rw [hGr] at HS2
  rw [hWh] at HS3 hw01
  rw [hSm, hGr] at hgr
  rw [hA, hY]
  rw [hA] at hop hlo
  rw [hY] at hly
  have HSm := Lib.hid hSm
  have HGr := Lib.hid hGr
  have HWh := Lib.hid hWh
  have g0 : ((A : Int) == 0) = false := beq_eq_false_iff_ne.2 (by omega)
  obtain ⟨hg1, hg2, hg3⟩ := hgr
  obtain ⟨w2, hw2⟩ : ∃ w2, ((w.alloc (.cells #[.pointer (some ⟨d, 0, none⟩)] 135)).alloc (.cells #[.int .u64 (wd c)] 22)).drewN m1 = w2 := ⟨_, rfl⟩
  rw [hw2]
  have HW2 := Lib.hid hw2
  clear hA hY s1 s2 s3 hSm hGr hWh hw2
  go_upto_if 28 with (fail)
  go_cut [11, 12, 13] from 22 to 30 (fun t1 t2 t3 wc => wc = w2 ∧ t1 = .int .i64 (Sm : Int) ∧ t2 = .int .i64 (Gr : Int) ∧ t3 = .int .i64 (Wh : Int))
  case first =>
    by_cases hlt : Y < A
    · have e1 : Sm = Y := by rw [HS1.out, if_pos hlt]
      have e2 : Gr = A := by rw [HS2.out, if_pos hlt]
      have e3 : Wh = 0 := by rw [HS3.out, if_pos hlt]
      have E1 := Lib.hid e1
      have E2 := Lib.hid e2
      have E3 := Lib.hid e3
      have q1 : decide (Y < A) = true := by simpa using hlt
      clear e1 e2 e3
      go_wp2
      go_meet
      case rel => exact ⟨rfl, by rw [E1.out], by rw [E2.out], by rw [E3.out]; rfl⟩
    · have e1 : Sm = A := by rw [HS1.out, if_neg hlt]
      have e2 : Gr = Y := by rw [HS2.out, if_neg hlt]
      have e3 : Wh = 1 := by rw [HS3.out, if_neg hlt]
      have E1 := Lib.hid e1
      have E2 := Lib.hid e2
      have E3 := Lib.hid e3
      have q1 : decide (Y < A) = false := by simpa using hlt
      clear e1 e2 e3
      go_wp2
      go_meet
      case rel => exact ⟨rfl, by rw [E1.out], by rw [E2.out], by rw [E3.out]; rfl⟩
  case rest =>
  obtain ⟨rfl, rfl, rfl, rfl⟩ := hcut
  obtain ⟨w2, rfl⟩ : ∃ w2, w2 = wc := ⟨_, rfl⟩
  have hw2s : w2.heap.size = w.heap.size + 2 := by rw [← HW2.out]; show (World.alloc _ _).heap.size = _; simp
  have hsc : Sc w (w2.alloc (.cells #[.slice none 0 0] 39)) d M (w.heap.size + 2) w.heap.size (w.heap.size + 1) c (.slice none 0 0) [] := by
    have hf2 : Fr (fun _ => False) w w2 := by rw [← HW2.out]; exact ((Fr.alloc (fun _ => False) w _).thenAlloc _).thenDrewN m1
    have b0 : Bx w2 w.heap.size 135 (.pointer (some ⟨d, 0, none⟩)) := by
      rw [← HW2.out]
      show ((World.alloc _ _).heap)[_]? = _
      exact heap_alloc2_old w _ _
    have b1 : Bx w2 (w.heap.size + 1) 22 (.int .u64 (wd c)) := by
      rw [← HW2.out]
      show ((World.alloc _ _).heap)[_]? = _
      exact heap_alloc2_new w _ _
    have hf3 := Fr.alloc (fun _ => False) w2 (.cells #[.slice none 0 0] 39)
    refine ⟨?_, World.ownsRow_nil _ _ _ _, b0.fr hf3 (fun h => h), b1.fr hf3 (fun h => h), H.out, hf2.trans hf3 (fun _ h _ => h), by omega, by omega⟩
    rw [← hw2s]
    exact alloc_at _ _
  have HSC := Lib.hid hsc
  have HW2S := Lib.hid hw2s
  clear hsc HS1 HS2 HS3 HD1 HW2
  go_wp2_with fail
  have HW01 := Lib.hid hw01
  have hwl : (Wh : Int) ≤ 1 := by have := HW01.out; omega
  have hcnt : Hid (∀ n : Nat, (max count 1 ≤ (n : Int)) ↔ T.cnt ≤ n) := fun n => by rw [HTC.out]; omega
  have HG60 : Hid (Gr = 2 ^ g ∧ g ≤ 45) := by
    have h1 : Gr = 2 ^ g := by rw [← HGr.out]; exact HT.out.great
    refine ⟨h1, ?_⟩
    rw [h1] at hg1
    exact (Nat.pow_le_pow_iff_right (by decide : 1 < 2)).1 (show 2 ^ g ≤ 2 ^ 45 by omega)
  clear hw01
  go_loopg [33] (2 ^ g) (fun gh _t wr => ∃ (c : UInt64) (v : Value) (S : List ByteArray), Hid (Sc w wr d M (w.heap.size + 2) w.heap.size (w.heap.size + 1) c v S) ∧ Hid (T.nxt c.toNat S = Res) ∧ Hid (S.length ≤ wG M g (tr g c.toNat) + wS M (tr g c.toNat / 2 ^ r)) ∧ Hid (2 ^ g ≤ tr g c.toNat + gh ∧ gh ≤ 2 ^ g))
  case atStart =>
    refine ⟨c, .slice none 0 0, [], HSC, HRS, by show _ ≤ _; simp, ?_⟩
    have := tr_lt g c.toNat
    show _ ∧ _
    omega
  case round =>
    obtain ⟨c0, v0, S0, HS, HN, HL, HGH⟩ := hrel
    clear HSC
    have HL2 : Hid ((S0 ++ T.S c0.toNat).length ≤ wG M g (tr g c0.toNat) + wS M (tr g c0.toNat / 2 ^ r + 1)) := by
      show _ ≤ _
      rw [List.length_append, HTS.out]
      have h1 := HL.out
      by_cases hs : smallM M = 0
      · rw [if_pos hs]
        unfold wS at h1 ⊢
        rw [if_pos hs] at h1 ⊢
        simpa using h1
      · rw [if_neg hs]
        have := wS_step HT.out c0.toNat hs
        omega
    have hb0 : wG M g (tr g c0.toNat) + wS M (tr g c0.toNat / 2 ^ r + 1) ≤ M.n := by
      refine w_bound H.out.inv HT.out (Nat.le_of_lt (tr_lt _ _)) ?_
      have h1 := tr_lt g c0.toNat
      rw [show 2 ^ g = 2 ^ (g - r) * 2 ^ r by rw [← Nat.pow_add, Nat.sub_add_cancel HT.out.le]] at h1
      exact (Nat.div_lt_iff_lt_mul (Nat.two_pow_pos r)).2 h1
    have HB0 := Lib.hid hb0
    have hS0 : S0.length ≤ 4398046511104 := by have h1 := HL2.out; rw [List.length_append] at h1; omega
    clear hb0
    go_upto_if 33 with (fail)
    go_cut [33] from 32 to 38 (fun _t wc => ∃ v', Hid (Sc w wc d M (w.heap.size + 2) w.heap.size (w.heap.size + 1) c0 v' (S0 ++ T.S c0.toNat)))
    case first =>
      by_cases hs : Sm = 0
      · have hz : Hid (S0 ++ T.S c0.toNat = S0) := by show _ = _; rw [HTS.out, if_pos (HSm.out.trans hs), List.append_nil]
        have q1 : ¬ 0 < Sm := by omega
        clear hs
        go_wp2
        go_meet
        case rel => exact ⟨v0, by rw [hz.out]; exact HS⟩
      · have q1 : decide (0 < Sm) = true := by simp; omega
        have hz : Hid (S0 ++ T.S c0.toNat = S0 ++ bucketK M (1 - (Wh : Int)) ((c0.toNat % (Sm : Int).toNat : Nat) : Int)) := by
          show _ = _
          rw [HTS.out, if_neg (by rw [HSm.out]; exact hs), HSm.out, HWh.out, Int.toNat_natCast, show ((1 - Wh : Nat) : Int) = 1 - (Wh : Int) by omega]
        have hb := bk_any w wr d M _ _ _ c0 v0 S0 (1 - (Wh : Int)) Sm HS.out (by omega) (by omega) (by omega) hS0
        rw [← hz.out] at hb
        have HBK := Lib.hid hb
        have q2 : 0 < Sm := by omega
        clear hs hb q1
        go_wp2_with fail
        refine HBK.out.mono ?_
        rintro e w4 ⟨rfl, v4, hs4⟩
        have HS4 := Lib.hid hs4
        clear hs4
        go_wp2_with fail
        go_meet
        case rel => exact ⟨v4, HS4⟩
    case rest =>
    obtain ⟨v1, HS1⟩ := hcut
    have hw01 : (0 : Int) ≤ (Wh : Int) := by omega
    go_upto_block 2 with (fail)
    obtain ⟨p0, hp0⟩ : ∃ p, tr g c0.toNat = p := ⟨_, rfl⟩
    rw [hp0] at HL HL2 HB0 HGH
    have hp0l : p0 < 2 ^ g := by rw [← hp0]; exact tr_lt _ _
    obtain ⟨K0, hK0⟩ : ∃ K, S0 ++ T.S c0.toNat = K := ⟨_, rfl⟩
    rw [hK0] at HS1 HL2
    have hturn : Hid (S0 ++ T.turnK c0.toNat = K0 ++ blk T.G g p0 (en r p0)) := by
      show _ = _
      unfold TB.turnK
      rw [← List.append_assoc, hK0, hg, hr, hp0]
    have hturnC : Hid (T.turnC c0.toNat = if en r p0 = 2 ^ g then 0 else tr g (en r p0)) := by
      show _ = _
      unfold TB.turnC
      rw [hg, hr, hp0]
    have hnx : Hid (Res = if T.turnC c0.toNat = 0 ∨ T.cnt ≤ (S0 ++ T.turnK c0.toNat).length then (T.turnC c0.toNat, S0 ++ T.turnK c0.toNat) else T.nxt (T.turnC c0.toNat) (S0 ++ T.turnK c0.toNat)) := by
      show _ = _
      rw [← HN.out, T.nxt_eq (by rw [hg, hr]; exact HT.out.le)]
    have HP0 := Lib.hid hp0
    clear hK0 hp0 hS0
    go_cut [42] from 39 to 54 (fun _t wc => ∃ (c1 : UInt64) (v1 : Value), Hid (Sc w wc d M (w.heap.size + 2) w.heap.size (w.heap.size + 1) c1 v1 (S0 ++ T.turnK c0.toNat)) ∧ Hid (c1.toNat = T.turnC c0.toNat))
    case first =>
      go_wp2
      go_loopg [42] (2 ^ g) (fun gh _t wr => ∃ (c : UInt64) (v : Value) (q : Nat), Hid (Sc w wr d M (w.heap.size + 2) w.heap.size (w.heap.size + 1) c v (K0 ++ blk T.G g p0 q)) ∧ Hid (tr g c.toNat = q) ∧ Hid (p0 ≤ q) ∧ Hid (en r q = en r p0) ∧ Hid (2 ^ g ≤ q + gh))
      case atStart =>
        refine ⟨c0, v1, p0, ?_, HP0, Nat.le_refl p0, rfl, ?_⟩
        · rw [blk_nil, List.append_nil]; exact HS1
        · show _ ≤ _; omega
      case round =>
        obtain ⟨wo, rfl⟩ : ∃ wo, wo = wr := ⟨_, rfl⟩
        obtain ⟨c1, v2, q, HS2, HQ, HPQ, HEN, HGQ⟩ := hrel
        have hql : q < 2 ^ g := by rw [← HQ.out]; exact tr_lt _ _
        have hlen : (K0 ++ blk T.G g p0 q).length ≤ 4398046511104 := by
          have h1 := blk_len T.G g p0 q HPQ.out
          have h2 := HL2.out
          have h3 : (fun i => (T.G (tr g i)).length) = fun i => (bucketK M (whichM M : Nat) (tr g i : Nat)).length := funext fun i => by rw [HTG.out]
          rw [h3] at h1
          have h4 : wG M g q + wS M (p0 / 2 ^ r + 1) ≤ M.n := by
            refine w_bound H.out.inv HT.out (Nat.le_of_lt hql) ?_
            rw [show 2 ^ g = 2 ^ (g - r) * 2 ^ r by rw [← Nat.pow_add, Nat.sub_add_cancel HT.out.le]] at hp0l
            exact (Nat.div_lt_iff_lt_mul (Nat.two_pow_pos r)).2 hp0l
          unfold wG at h2 h4
          rw [List.length_append]
          omega
        have hb := bk_any w wo d M _ _ _ c1 v2 _ (Wh : Int) Gr HS2.out (by omega) (by omega) (by omega) hlen
        have hgq : (c1.toNat % (Gr : Int).toNat) = tr g q := by
          rw [Int.toNat_natCast, HG60.out.1, ← HQ.out, tr_tr]
        rw [hgq] at hb
        have hsn : (K0 ++ blk T.G g p0 q) ++ bucketK M (Wh : Int) ((tr g q : Nat) : Int) = K0 ++ blk T.G g p0 (q + 1) := by
          rw [blk_snoc _ _ _ _ HPQ.out, ← List.append_assoc, HTG.out, HWh.out]
        rw [hsn] at hb
        have HBK := Lib.hid hb
        clear hb hsn hgq hlen hql
        go_wp2_with fail
        refine HBK.out.mono ?_
        rintro e w4 ⟨rfl, v4, hs4⟩
        have HS4 := Lib.hid hs4
        have kc := hs4.cc.cell
        have kz := hs4.cc.free
        clear hs4
        have hlg : lg (Gr : Int) = g := by rw [HG60.out.1]; exact lg_pow g (by have := HG60.out.2; omega)
        have HAF := Lib.hid (after_any c1 (Gr : Int) w4 (by omega))
        rw [hlg] at HAF
        obtain ⟨a2, ha2⟩ : ∃ a, aft g c1.toNat = a := ⟨_, rfl⟩
        have ha2l : a2 < 18446744073709551616 := by
          have h1 := aft_lt g c1.toNat
          rw [ha2] at h1
          have h2 : 2 ^ g ≤ 2 ^ 45 := Nat.pow_le_pow_right (by decide) HG60.out.2
          omega
        have HA2 : Hid (a2 = if q + 1 = 2 ^ g then 0 else tr g (q + 1)) := by
          show _ = _
          rw [← ha2]; unfold aft; rw [HQ.out]
        rw [ha2] at HAF
        clear ha2 hlg
        go_wp2_with fail
        refine HAF.out.mono ?_
        rintro e w' ⟨rfl, rfl⟩
        have hs6 := HS4.out.setc (UInt64.ofNat a2) (a2 : Int) (wd_nat a2 ha2l).symm
        have HS6 := Lib.hid hs6
        have HU2 := Lib.hid (u64_nat a2 ha2l)
        clear hs6 ha2l
        go_upto_region 13 with (fail)
        obtain ⟨w6, hw6⟩ : ∃ w6, w4.setCell ⟨w.heap.size + 1, 0, none⟩ (.int .u64 (a2 : Int)) = w6 := ⟨_, rfl⟩
        rw [hw6] at HS6 ⊢
        clear hw6 kc kz
        go_cut [54] from 46 to 54 (fun t wc => wc = w6 ∧ t = .bool (decide ((q + 1) % 2 ^ r = 0)))
        case first =>
          have kc6 := HS6.out.cc.cell
          rw [show wd (UInt64.ofNat a2) = (a2 : Int) from congrArg Nat.cast HU2.out] at kc6
          by_cases hs : Sm = 0
          · have hb : decide ((q + 1) % 2 ^ r = 0) = true := by
              rcases HT.out.small with ⟨_, e⟩ | ⟨s, e, _⟩
              · rw [e]; simp [Nat.mod_one]
              · rw [HSm.out, hs] at e; have := Nat.two_pow_pos s; omega
            have HBB := Lib.hid hb
            have q1 : ((Sm : Int) == 0) = true := beq_iff_eq.2 (by omega)
            clear hb
            go_wp2
            go_meet
            case rel => exact ⟨rfl, by rw [HBB.out]⟩
          · have q1 : ((Sm : Int) == 0) = false := beq_eq_false_iff_ne.2 (by omega)
            have hd : (a2 / Sm = 0) ↔ (q + 1) % 2 ^ r = 0 := by
              rcases HT.out.small with ⟨e, _⟩ | ⟨s, e, hsg, er⟩
              · exact absurd (HSm.out.symm.trans e) hs
              · have e2 : Sm = 2 ^ s := HSm.out.symm.trans e
                rw [HA2.out, e2]
                by_cases hq1 : q + 1 = 2 ^ g
                · rw [if_pos hq1, hq1, Nat.zero_div]
                  refine ⟨fun _ => ?_, fun _ => rfl⟩
                  rw [er, show 2 ^ g = 2 ^ (g - s) * 2 ^ s by rw [← Nat.pow_add, Nat.sub_add_cancel hsg]]
                  exact Nat.mul_mod_right _ _
                · rw [if_neg hq1, hi_zero g s (q + 1) hsg, er]
            obtain ⟨bq, hbq⟩ : ∃ b, decide ((q + 1) % 2 ^ r = 0) = b := ⟨_, rfl⟩
            have q2 : (((a2 / Sm : Nat) : Int) == 0) = bq := by
              rw [← hbq, Bool.eq_iff_iff, beq_iff_eq, decide_eq_true_eq, ← hd]; omega
            have HBB := Lib.hid hbq
            have q3 : ¬ Sm = 0 := hs
            have hsu : IntKind.u64.wrap (Sm : Int) = (Sm : Int) := IntWalk.u64_in _ (by omega)
            have Q4 : Hid ((IntKind.u64.wrap ((a2 : Int) / (Sm : Int)) == 0) = bq) := by
              show _ = _
              have e1 : (a2 : Int) / (Sm : Int) = ((a2 / Sm : Nat) : Int) := rfl
              have e2 : a2 / Sm ≤ a2 := Nat.div_le_self _ _
              have e3 : a2 < 18446744073709551616 := by have h1 := (UInt64.ofNat a2).toNat_lt; rw [HU2.out] at h1; exact h1
              rw [e1]
              generalize a2 / Sm = z at *
              rw [IntWalk.u64_in _ (by omega)]
              exact q2
            clear hbq hd hs q2
            go_wp2
            go_meet
            case rel => exact ⟨rfl, by rw [HBB.out, Q4.out]⟩
        case rest =>
        obtain ⟨rfl, rfl⟩ := hcut
        by_cases hx : (q + 1) % 2 ^ r = 0
        · have hdx : decide ((q + 1) % 2 ^ r = 0) = true := decide_eq_true hx
          have heq : en r p0 = q + 1 := by rw [← HEN.out]; exact en_hit r q hx
          have HX1 : Hid (Sc w wc d M (w.heap.size + 2) w.heap.size (w.heap.size + 1) (UInt64.ofNat a2) v4 (S0 ++ T.turnK c0.toNat)) := by
            rw [hturn.out, heq]; exact HS6
          have HX2 : Hid ((UInt64.ofNat a2).toNat = T.turnC c0.toNat) := by
            show _ = _
            rw [HU2.out, hturnC.out, heq, HA2.out]
          rw [hdx]
          clear hx hdx heq
          go_wp2
          go_meet
          case rel => exact ⟨_, _, HX1, HX2⟩
        · have hdx : decide ((q + 1) % 2 ^ r = 0) = false := decide_eq_false hx
          have hq1 : ¬ q + 1 = 2 ^ g := by
            intro e
            refine hx ?_
            rw [e, show 2 ^ g = 2 ^ (g - r) * 2 ^ r by rw [← Nat.pow_add, Nat.sub_add_cancel HT.out.le]]
            exact Nat.mul_mod_left _ _
          have hql : q < 2 ^ g := by rw [← HQ.out]; exact tr_lt _ _
          have HX1 : Hid (tr g (UInt64.ofNat a2).toNat = q + 1) := by
            show _ = _
            rw [HU2.out, HA2.out, if_neg hq1, tr_tr, Nat.mod_eq_of_lt (by omega)]
          have HX2 : Hid (en r (q + 1) = en r p0) := by
            show _ = _
            rw [en_miss r q hx]; exact HEN.out
          rw [hdx]
          clear hx hdx
          go_wp2
          go_roundg (2 ^ g - (q + 1))
          case measure => have := HGQ.out; omega
          case rel =>
            refine ⟨_, _, q + 1, HS6, HX1, ?_, HX2, ?_⟩
            · show _ ≤ _; have := HPQ.out; omega
            · show _ ≤ _; omega
    case rest =>
    obtain ⟨c1, v2, HS5, HC5⟩ := hcut
    have hrow := HS5.out.row
    obtain ⟨va, vc, rfl⟩ := owns_slice hrow
    obtain ⟨K, hK⟩ : ∃ K, S0 ++ T.turnK c0.toNat = K := ⟨_, rfl⟩
    rw [hK] at HS5
    have hkn : Hid (Res = if c1.toNat = 0 ∨ T.cnt ≤ K.length then (c1.toNat, K) else T.nxt c1.toNat K) := by
      show _ = _
      rw [HC5.out, ← hK]; exact hnx.out
    obtain ⟨cn, hcn⟩ : ∃ n, c1.toNat = n := ⟨_, rfl⟩
    have hcl8 : cn < 18446744073709551616 := by rw [← hcn]; exact c1.toNat_lt
    have k1 := HS5.out.kk.cell
    have k2 := HS5.out.cc.cell
    rw [show wd c1 = (cn : Int) from congrArg Nat.cast hcn] at k2
    have hKw : K.length ≤ wG M g (en r p0) + wS M (en r p0 / 2 ^ r) := by
      have h1 := blk_len T.G g p0 (en r p0) (Nat.le_of_lt (en_gt r p0))
      have h2 := HL2.out
      have h3 : (fun i => (T.G (tr g i)).length) = fun i => (bucketK M (whichM M : Nat) (tr g i : Nat)).length := funext fun i => by rw [HTG.out]
      rw [h3] at h1
      rw [en_div, ← hK, hturn.out, List.length_append]
      unfold wG at h2 ⊢
      omega
    have hKl : K.length ≤ M.n := by
      refine Nat.le_trans hKw (w_bound H.out.inv HT.out (en_le g r p0 HT.out.le hp0l) ?_)
      rw [en_div]
      rw [show 2 ^ g = 2 ^ (g - r) * 2 ^ r by rw [← Nat.pow_add, Nat.sub_add_cancel HT.out.le]] at hp0l
      exact (Nat.div_lt_iff_lt_mul (Nat.two_pow_pos r)).2 hp0l
    have HKW := Lib.hid hKw
    have HCN := Lib.hid hcn
    rw [hcn] at hkn
    have hKi : (K.length : Int) ≤ 4398046511104 := by omega
    clear hrow hcn hK hKw
    have hfin0 : Hid (∀ w', Fr (fun _ => False) wc w' → RowS w.heap.size w' (.slice va K.length vc) K ∧ Below w.heap.size w w') := fun w' hf => by
      have h1 := HS5.out.quiet hf
      exact ⟨h1.row, h1.fr.below (Nat.le_refl _) (fun _ h => h.elim)⟩
    by_cases hz : cn = 0
    · subst hz
      have hres : Res = (0, K) := by rw [hkn.out, if_pos (.inl rfl)]
      have HRES := Lib.hid hres
      clear hres
      go_upto_region 15 with (fail)
      all_goals
        go_quiet (fail)
        go_wp2
        go_ret2
        rw [HRES.out]
        obtain ⟨f1, f2⟩ := hfin0.out _ (Fr.drewN (fun _ => False) wc nq)
        exact ⟨_, rfl, f1, f2⟩
    · have q1 : ((cn : Int) == 0) = false := beq_eq_false_iff_ne.2 (by omega)
      by_cases hm : count ≤ (K.length : Int) ∧ 1 ≤ K.length
      · have hres : Res = (cn, K) := by rw [hkn.out, if_pos (.inr ((hcnt.out _).1 (by omega)))]
        have HRES := Lib.hid hres
        obtain ⟨m1', m2'⟩ := hm
        have m3' : (1 : Int) ≤ (K.length : Int) := by omega
        have m4' : max count 1 ≤ (K.length : Int) := by omega
        clear hres
        go_upto_region 15 with (fail)
        all_goals
          go_quiet (fail)
          go_wp2
          all_goals
            go_ret2
            rw [HRES.out]
            refine ⟨_, rfl, ?_⟩
            exact hfin0.out _ (Fr.drewN (fun _ => False) wc _)
      · have hno : T.nxt c1.toNat K = Res := by rw [hkn.out, HCN.out, if_neg (fun e => e.elim hz (fun e => hm (by have := (hcnt.out _).2 e; omega)))]
        have HNO := Lib.hid hno
        have hpos : tr g c1.toNat = en r p0 ∧ en r p0 < 2 ^ g := by
          have h1 := T.turn_pos c0.toNat (by rw [hg, hr]; exact HT.out.le) (by rw [← HC5.out, HCN.out]; exact hz)
          rw [hg, hr, ← HC5.out, HP0.out] at h1
          exact h1
        have HPOS := Lib.hid hpos
        have hep := en_gt r p0
        have m4' : ¬ max count 1 ≤ (K.length : Int) := by omega
        have m5' : (K.length : Int) < max count 1 := by omega
        have m6' : decide (max count 1 ≤ (K.length : Int)) = false := decide_eq_false m4'
        clear hno hpos hm
        go_wp2
        all_goals
          go_roundg (2 ^ g - en r p0)
          case measure => have := HGH.out; have := HPOS.out; omega
          case rel =>
            refine ⟨c1, _, K, HS5, HNO, ?_, ?_⟩
            · show _ ≤ _; rw [HPOS.out.1]; exact HKW.out
            · show _ ∧ _; rw [HPOS.out.1]; have := HPOS.out; omega
end Go.Proofs.Ytgomilodeaafdaa.Ds
namespace Go.Proofs.Ytgomilodeaafdaa.Ds
open Go.RowKit Go.Shelf
attribute [local go_sem] Oper.semAt_some
theorem DAt.keep {A B : World} {d : Nat} {M : DM} (h : DAt A d M) (hk : Keep (fun k _ => Bs (dictL d M) k) A B) : DAt B d M :=
  ⟨rep_keep h.rep hk, h.nd, h.sz, h.inv, h.lold, h.lyoung⟩
def bkE (c : List E) : Array Value := #[hp c]
set_option maxRecDepth 100000 in
theorem all_in (F : Fence) (n : Nat) (hF : F.fn 158) (hro : F.round = none) (d : Nat) (w : World) :
    CallsIn F n Try.prog 158 #[.pointer (some ⟨d, 0, none⟩)] w fun e w' => e = .returned (.func (.func 190) #[] #[.pointer (some ⟨w.heap.size, 0, none⟩)]) ∧ w' = w.alloc (.cells #[.pointer (some ⟨d, 0, none⟩)] 135) := by
  refine callsIn_of_wp Try.func158 rfl hF ?_ hro
  simp only [Try.ntmps158, List.size_toArray, List.length_cons, List.length_nil, Nat.reduceAdd, Nat.reduceSub, Array.replicate_succ, Array.replicate_zero, List.push_toArray, List.append_toArray, List.nil_append, List.cons_append]
  gi_wp2
  go_ret
  exact ⟨rfl, rfl⟩
/-- what the iterator keeps in sight -/
structure Al (d Bd : Nat) (M : DM) (W : World) : Prop where
  dat : DAt W d M
  box : W.heap[Bd]? = some (.cells #[ptr d] 135 (0, 0))
theorem Al.keep {A B : World} {d Bd : Nat} {M : DM} (h : Al d Bd M A) (hk : Keep (fun k _ => k = Bd ∨ Bs (dictL d M) k) A B) : Al d Bd M B :=
  ⟨h.dat.keep (hk.mono fun _ _ h => .inr h), hk Bd _ _ _ (.inl rfl) h.box⟩
set_option maxRecDepth 100000 in
set_option maxHeartbeats 4000000 in
theorem all1_in (F : Fence) (n : Nat) (hF : F.fn 190) (hro : F.round = none) (hn : 1 ≤ n) (l Bd d : Nat) (M : DM) (Kp : World → World → Prop)
    (hKp : ∀ A B, Kp A B → Keep (fun k _ => k = Bd ∨ Bs (dictL d M) k) A B) (J Jx : List (List E) → World → Prop)
    (hdr : ∀ pre W m, J pre W → J pre (W.drewN m))
    (hY : ∀ pre x W, J pre W → pre ++ [x] <+: opn M → YieldAt F (n - 1) Try.prog l (bkE x) W fun e W' =>
      (e = .returned (.bool true) ∧ J (pre ++ [x]) W' ∧ Kp W W') ∨ (e = .returned (.bool false) ∧ Jx (pre ++ [x]) W' ∧ Late 0 W W'))
    (W : World) (hA : Al d Bd M W) (h0 : J [] W) :
    CallsIn F n Try.prog 190 #[.func (.yield l) #[] #[], .pointer (some ⟨Bd, 0, none⟩)] W fun e W' => (∃ v, e = .returned v) ∧
      ((∃ xs, xs = opn M ∧ J xs W') ∨ (∃ pre, pre <+: opn M ∧ Jx pre W')) := by
  have HA := Lib.hid hA
  cases F
  dsimp only at hro
  subst hro
  obtain ⟨f0, f1, f2, f3, f4, f5⟩ := blk_field hA.dat.rep.head
  have hcb : W.cell? ⟨Bd, 0, none⟩ = some (.pointer (some ⟨d, 0, none⟩)) := by rw [cell_of_blk hA.box]; rfl
  have hlo := hA.dat.lold
  have hly := hA.dat.lyoung
  by_cases ho : M.old = []
  · have hy : M.young = [] := by
      by_cases hy : M.young = []
      · exact hy
      · have := hA.dat.inv.moving hy
        rw [ho] at this; simp at this
    have hat := hA.dat.inv.still hy
    have hop : opn M = [] := by unfold opn; rw [ho, hy]; simp
    rw [ho, tv_nil] at f1
    rw [hy, tv_nil] at f2
    rw [hat] at f3
    have f3' : W.cell? ⟨d, 3, none⟩ = some (.int .i64 0) := f3
    have HOP := Lib.hid hop
    have HDR := Lib.hid hdr
    have HJ0 := Lib.hid h0
    clear f0 f3 f4 f5 hA hKp hdr h0 ho hy hat hop
    refine callsIn_of_wp Try.func190 rfl hF ?_ rfl
    simp only [Try.ntmps190, List.size_toArray, List.length_cons, List.length_nil, Nat.reduceAdd, Nat.reduceSub, Array.replicate_succ, Array.replicate_zero, List.push_toArray, List.append_toArray, List.nil_append, List.cons_append]
    gi_wp2
    gi_quiet (fail)
    gi_wp2
    gi_loopw [17] (fun i wr => i = .int .i64 0 ∧ Hid (wr = W.drewN nq)) (fun _ _ => 0)
    case atStart => exact ⟨rfl, (show _ = _ from rfl)⟩
    case round =>
      obtain ⟨rfl, HW⟩ := hrel
      have c1 : wr.cell? ⟨Bd, 0, none⟩ = some (.pointer (some ⟨d, 0, none⟩)) := by rw [HW.out]; exact hcb
      have c2 : wr.cell? ⟨d, 2, none⟩ = some (.slice none 0 0) := by rw [HW.out]; exact f2
      gi_wp2
      gi_loopw [31] (fun i wq => i = .int .i64 0 ∧ Hid (wq = W.drewN nq)) (fun _ _ => 0)
      case atStart => exact ⟨rfl, HW⟩
      case round =>
        obtain ⟨rfl, HW2⟩ := hrel
        gi_wp2
        go_end0
        exact ⟨⟨_, rfl⟩, .inl ⟨[], HOP.out.symm, by rw [HW2.out]; exact HDR.out _ _ _ HJ0.out⟩⟩
  · have hat : M.at_ < M.old.length := by
      by_cases hy : M.young = []
      · rw [hA.dat.inv.still hy]; exact List.length_pos_iff.2 ho
      · exact hA.dat.inv.moving hy
    rw [tv_of ho] at f1
    have HKP := Lib.hid hKp
    have HDR := Lib.hid hdr
    have HO := Lib.hid ho
    have HF5 := Lib.hid f5
    have HJ0 := Lib.hid h0
    have g0 : (0 : Int) ≤ M.at_ := by omega
    have g1 : (M.at_ : Int) ≤ M.old.length := by omega
    have g2 : (M.at_ : Int) < M.old.length := by omega
    clear f0 f4 f5 hA hKp hdr h0 ho
    refine callsIn_of_wp Try.func190 rfl hF ?_ rfl
    simp only [Try.ntmps190, List.size_toArray, List.length_cons, List.length_nil, Nat.reduceAdd, Nat.reduceSub, Array.replicate_succ, Array.replicate_zero, List.push_toArray, List.append_toArray, List.nil_append, List.cons_append]
    gi_wp2
    gi_quiet (fail)
    gi_wp2
    have HJ1 := Lib.hid (HDR.out _ _ nq HJ0.out)
    have HA1 : Hid (Al d Bd M (W.drewN nq)) := HA.out.keep (fun _ _ _ _ _ h => h)
    have hlen := opn_len M
    obtain ⟨L1, hL1⟩ : ∃ L1, M.old.length - M.at_ = L1 := ⟨_, rfl⟩
    rw [hL1] at hlen ⊢
    have hL1' : M.at_ + L1 = M.old.length := by omega
    have hL1b : L1 ≤ 35184372088832 := by omega
    have HL1 := Lib.hid hL1
    have HL1' := Lib.hid hL1'
    have HLEN := Lib.hid hlen
    clear hL1 hL1' hlen
    have HCO : Hid (∀ (V : World) (k : Nat) (hk : k < L1), Al d Bd M V → ∃ c : List E, V.cell? ⟨M.told, M.at_ + k, none⟩ = some (hp c) ∧ (opn M)[k]? = some c) := by
      intro V k hk hv
      have hc := opn_old M k (by rw [HL1.out]; exact hk)
      have hlt : M.at_ + k < M.old.length := by have := HL1'.out; omega
      rw [List.getElem?_eq_getElem hlt] at hc
      refine ⟨M.old[M.at_ + k], ?_, hc⟩
      exact row_cell (tab_old hv.dat HO.out).1.row (M.at_ + k) hlt
    have HYO := Lib.hid hY
    clear HJ0 HA f1 f2 f3 hcb hY
    gi_loopw [4, 17] (fun _ i wr => ∃ (k : Nat) (pre : List (List E)), i = .int .i64 k ∧ k ≤ L1 ∧ Hid (pre = (opn M).take k) ∧ Hid (Al d Bd M wr) ∧ Hid (J pre wr)) (fun _ i _ => L1 - (intOf i).toNat)
    case atStart => exact ⟨0, [], rfl, by omega, (show _ = _ from rfl), HA1.out, HJ1.out⟩
    case round =>
      obtain ⟨k, pre, rfl, hk, HPR, HA2, HJ2⟩ := hrel
      clear HA1 HJ1
      by_cases hlt : k < L1
      · obtain ⟨x, hc, hx⟩ := HCO.out wr k hlt HA2.out
        have HPR2 : Hid (pre ++ [x] = (opn M).take (k + 1)) := by
          show _ = _
          rw [HPR.out, List.take_add_one, hx]
          rfl
        obtain ⟨fn, tmps, assign, body, hy, hR⟩ := HYO.out pre x wr HJ2.out (by rw [HPR2.out]; exact List.take_prefix _ _)
        dsimp only [bkE] at hy
        obtain ⟨v, hv⟩ : ∃ v, hp x = v := ⟨_, rfl⟩
        rw [hv] at hc hy
        have HR := Lib.hid hR
        have b0 : (0 : Int) ≤ (k : Int) := by omega
        have b1 : (k : Int) < (L1 : Int) := by omega
        clear hR hv hx
        gi_wp2
        refine HR.out.mono ?_
        rintro e W3 (⟨rfl, hJ3, hk3⟩ | ⟨rfl, hJx3, -⟩)
        · have HA3 := Lib.hid (HA2.out.keep (HKP.out _ _ hk3))
          have HJ3 := Lib.hid hJ3
          clear hJ3 hk3
          gi_wp2
          go_roundw
          case rel => exact ⟨k + 1, pre ++ [x], by go_num, by omega, HPR2, HA3, HJ3⟩
          case measure => simp [intOf]; omega
        · have HJ3 := Lib.hid hJx3
          clear hJx3
          gi_wp2
          refine bodyPost_ret (results_none rfl _ _ _) rfl ?_
          exact ⟨⟨_, rfl⟩, .inr ⟨pre ++ [x], by rw [HPR2.out]; exact List.take_prefix _ _, HJ3.out⟩⟩
      · obtain rfl : k = L1 := by omega
        obtain ⟨wo, rfl⟩ : ∃ wo, wo = wr := ⟨_, rfl⟩
        obtain ⟨f0, f1, f2, f3, f4, f5⟩ := blk_field HA2.out.dat.rep.head
        have hcb : wo.cell? ⟨Bd, 0, none⟩ = some (.pointer (some ⟨d, 0, none⟩)) := by rw [cell_of_blk HA2.out.box]; rfl
        obtain ⟨a2, e2⟩ := len_tv wo M.tyoung M.young
        rw [e2] at f2
        have HYC : Hid (∀ (V : World) (j : Nat) (hj : j < M.young.length), Al d Bd M V → ∃ c : List E, a2 = some ⟨M.tyoung, 0, none⟩ ∧ V.cell? ⟨M.tyoung, j, none⟩ = some (hp c) ∧ (opn M)[k + j]? = some c) := by
          intro V j hj hv
          have hy : M.young ≠ [] := by intro e; rw [e] at hj; simp at hj
          have hc := opn_young M (k + j) (by rw [HL1.out]; omega)
          rw [HL1.out, Nat.add_sub_cancel_left, List.getElem?_eq_getElem hj] at hc
          refine ⟨M.young[j], ?_, row_cell (tab_young hv.dat hy).1.row j hj, hc⟩
          rw [tv_of hy] at e2
          cases e2; rfl
        clear f0 f1 f3 f4 f5 e2
        gi_wp2
        clear hcb f2
        gi_loopw [6, 31] (fun _ i wr => ∃ (j : Nat) (pre : List (List E)), i = .int .i64 j ∧ j ≤ M.young.length ∧ Hid (pre = (opn M).take (k + j)) ∧ Hid (Al d Bd M wr) ∧ Hid (J pre wr)) (fun _ i _ => M.young.length - (intOf i).toNat)
        case atStart => exact ⟨0, pre, rfl, by omega, HPR.out, HA2.out, HJ2.out⟩
        case round =>
          obtain ⟨j, pre2, rfl, hj, HPR3, HA3, HJ3⟩ := hrel
          clear HPR HA2 HJ2
          by_cases hlt2 : j < M.young.length
          · obtain ⟨x, rfl, hc, hx⟩ := HYC.out wr j hlt2 HA3.out
            have HPR4 : Hid (pre2 ++ [x] = (opn M).take (k + (j + 1))) := by
              show _ = _
              rw [HPR3.out, ← Nat.add_assoc, List.take_add_one, hx]
              rfl
            obtain ⟨fn, tmps, assign, body, hy, hR⟩ := HYO.out pre2 x wr HJ3.out (by rw [HPR4.out]; exact List.take_prefix _ _)
            dsimp only [bkE] at hy
            obtain ⟨v, hv⟩ : ∃ v, hp x = v := ⟨_, rfl⟩
            rw [hv] at hc hy
            have HR := Lib.hid hR
            have b0 : (0 : Int) ≤ (j : Int) := by omega
            have b1 : (j : Int) < (M.young.length : Int) := by omega
            clear hR hv hx
            gi_wp2
            refine HR.out.mono ?_
            rintro e W3 (⟨rfl, hJ4, hk4⟩ | ⟨rfl, hJx4, -⟩)
            · have HA4 := Lib.hid (HA3.out.keep (HKP.out _ _ hk4))
              have HJ4 := Lib.hid hJ4
              clear hJ4 hk4
              gi_wp2
              go_roundw
              case rel => exact ⟨j + 1, pre2 ++ [x], by go_num, by omega, HPR4, HA4, HJ4⟩
              case measure => simp [intOf]; omega
            · have HJ4 := Lib.hid hJx4
              clear hJx4
              gi_wp2
              refine bodyPost_ret (results_none rfl _ _ _) rfl ?_
              exact ⟨⟨_, rfl⟩, .inr ⟨pre2 ++ [x], by rw [HPR4.out]; exact List.take_prefix _ _, HJ4.out⟩⟩
          · obtain rfl : j = M.young.length := by omega
            gi_wp2
            go_end0
            exact ⟨⟨_, rfl⟩, .inl ⟨pre2, by rw [HPR3.out, List.take_of_length_le (by rw [HLEN.out]; exact Nat.le_refl _)], HJ3.out⟩⟩
theorem all1_stops (F : Fence) (n : Nat) (hF : F.fn 190) (hro : F.round = none) (hn : 1 ≤ n) (Bd d : Nat) (M : DM) (Kp : World → World → Prop)
    (hKp : ∀ A B, Kp A B → Keep (fun k _ => k = Bd ∨ Bs (dictL d M) k) A B) (w : World) (hA : Al d Bd M w) :
    SeqV F n Try.prog 190 #[.pointer (some ⟨Bd, 0, none⟩)] bkE Kp (fun pre => pre <+: opn M) (fun xs => xs = opn M) (fun pre => pre <+: opn M) w := fun l J Jx W hW hJ _ hY h0 =>
  all1_in F n hF hro hn l Bd d M Kp hKp J Jx (fun pre A m h => hJ pre A _ none h ⟨rfl, rfl, rfl, Nat.le_refl _, fun _ _ _ => rfl⟩ (fun r e => by cases e)) hY W
    (hA.keep fun k cs t m hk h => (hW.block k (Array.getElem?_eq_some_iff.1 h).1).trans h) h0
end Go.Proofs.Ytgomilodeaafdaa.Ds
namespace Go.Proofs.Ytgomilodeaafdaa.Ds
open Go.RowKit Go.Shelf
attribute [local go_sem] Oper.semAt_some
def etE (e : E) : Array Value := #[.string e.key, (fun l : List Value => l.headD undef) e.val]
/-- the iterator's own memory: keys and values gathered so far -/
structure Eb (W0 : World) (v1 v2 : Value) (ks : List ByteArray) (es : List E) (W : World) : Prop where
  b1 : Boxed W W0.heap.size 39 v1
  b2 : Boxed W (W0.heap.size + 1) 39 v2
  r1 : W.ownsRow W0.heap.size 9 1 v1 ks.length (ks.map .string)
  r2 : W.ownsRow W0.heap.size 9 1 v2 es.length (es.flatMap E.val)
  ap : ∀ g, v1.ownBlock = some g → v2.ownBlock ≠ some g
  fr : Fr (fun _ => False) W0 W
theorem own_blk {W : World} {B0 : Nat} {e : TypeId} {size : Nat} {v : Value} {n : Nat} {xs : List Value} (h : W.ownsRow B0 e size v n xs) {g : Nat} (hg : v.ownBlock = some g) : B0 ≤ g ∧ g < W.heap.size ∧ ∃ cs, W.heap[g]? = some (.cells cs e (0, 0)) := by
  rcases h with ⟨h1, ⟨rfl, _⟩ | ⟨g', cap, cur, rfl, hb, hgg, hnc, hcm, hcs, htake⟩⟩
  · cases hg
  · cases hg
    exact ⟨hb, (Array.getElem?_eq_some_iff.1 hgg).1, _, hgg⟩
theorem own_same {A B : World} {B0 : Nat} {e : TypeId} {size : Nat} {v : Value} {n : Nat} {xs : List Value} (h : A.ownsRow B0 e size v n xs) (hk : ∀ g, v.ownBlock = some g → B.heap[g]? = A.heap[g]?) : B.ownsRow B0 e size v n xs := by
  rcases h with ⟨h1, h2 | ⟨g, cap, cur, rfl, hb, hgg, hnc, hcm, hcs, htake⟩⟩
  · exact ⟨h1, .inl h2⟩
  · exact ⟨h1, .inr ⟨g, cap, cur, rfl, hb, (hk g rfl).trans hgg, hnc, hcm, hcs, htake⟩⟩
theorem Eb.turn {W0 A B : World} {v1 v2 : Value} {ks : List ByteArray} {es : List E} (h : Eb W0 v1 v2 ks es A) {row : Option Nat} (hg : A.grownBy B row) (hr : ∀ r, row = some r → W0.heap.size ≤ r ∧ ∃ o : Obj, A.heap[r]? = some o ∧ o.isCells = false) : Eb W0 v1 v2 ks es B := by
  have hne : ∀ k cs t m, A.heap[k]? = some (.cells cs t m) → some k ≠ row := by
    intro k cs t m hk e
    obtain ⟨_, o, ho, hc⟩ := hr k e.symm
    rw [hk] at ho
    cases ho
    cases hc
  have own : ∀ {e : TypeId} {size : Nat} {v : Value} {n : Nat} {xs : List Value}, A.ownsRow W0.heap.size e size v n xs → B.ownsRow W0.heap.size e size v n xs := by
    intro e size v n xs h
    refine own_same h fun g hgv => ?_
    obtain ⟨_, hl, cs, hc⟩ := own_blk h hgv
    exact hg.block g hl (hne g _ _ _ hc)
  exact ⟨h.b1.kept hg (hne _ _ _ _ h.b1), h.b2.kept hg (hne _ _ _ _ h.b2), own h.r1, own h.r2, h.ap, h.fr.wide (Fr.of_grownBy hg) (fun i hi => .inr (hr i hi).1)⟩
theorem Eb.quiet {W0 A B : World} {v1 v2 : Value} {ks : List ByteArray} {es : List E} (h : Eb W0 v1 v2 ks es A) (hf : Fr (fun _ => False) A B) : Eb W0 v1 v2 ks es B :=
  h.turn (row := none) ⟨hf.os, hf.tape, hf.output, hf.size, fun k hk _ => hf.block k hk (fun h => h)⟩ (fun r e => by cases e)
/-- what gathering may write -/
def Wr (W0 : World) (v1 v2 : Value) (k : Nat) : Prop := k = W0.heap.size ∨ k = W0.heap.size + 1 ∨ v1.ownBlock = some k ∨ v2.ownBlock = some k
theorem Eb.app1 {W0 A A1 w' : World} {v1 v2 v' : Value} {ks : List ByteArray} {es : List E} {key : ByteArray} (h : Eb W0 v1 v2 ks es A) (hA : Fr (fun _ => False) A A1)
    (hr : w'.ownsRow W0.heap.size 9 1 v' (ks.length + 1) (ks.map .string ++ [.string key])) (hg : A1.grownBy w' v1.ownBlock) (ho : v'.ownBlock = v1.ownBlock ∨ v'.ownBlock = some A1.heap.size) :
    Eb W0 v' v2 (ks ++ [key]) es (w'.setCell ⟨W0.heap.size, 0, none⟩ v') ∧ Fr (Wr W0 v1 v2) A (w'.setCell ⟨W0.heap.size, 0, none⟩ v') ∧ w'.cell? ⟨W0.heap.size, 0, none⟩ = some v1 ∧ w'.frozen? ⟨W0.heap.size, 0, none⟩ = false := by
  have h1 := h.quiet hA
  have hb1 : Boxed w' W0.heap.size 39 v1 := h1.b1.kept hg (h1.b1.not_row (by decide) h1.r1)
  have hb2 : Boxed w' (W0.heap.size + 1) 39 v2 := h1.b2.kept hg (h1.b2.not_row (by decide) h1.r1)
  have hgf := Fr.of_grownBy hg
  have hr2 : w'.ownsRow W0.heap.size 9 1 v2 es.length (es.flatMap E.val) := by
    refine own_same h1.r2 fun g hgv => hg.block g (own_blk h1.r2 hgv).2.1 (fun e => ?_)
    exact h.ap g e.symm hgv
  have hset := Fr.setCell w' ⟨W0.heap.size, 0, none⟩ v'
  have hne : ∀ {e : TypeId} {size : Nat} {v : Value} {n : Nat} {xs : List Value}, w'.ownsRow W0.heap.size e size v n xs → 39 ≠ e → ∀ g, v.ownBlock = some g → g ≠ W0.heap.size := fun hrow hte g hgv e => hb1.not_row hte hrow (by rw [← e]; exact hgv.symm)
  have hsz : W0.heap.size + 1 < A1.heap.size := h1.b2.lt
  refine ⟨⟨hb1.set v', ?_, ?_, own_same hr2 fun g hgv => hset.block g (own_blk hr2 hgv).2.1 (fun e => hne hr2 (by decide) g hgv e), ?_, ?_⟩, ?_, hb1.cell, hb1.frozen⟩
  · exact (hset.block _ hb2.lt (by dsimp only; omega)).trans hb2
  · rw [List.length_append, List.map_append]
    exact own_same hr fun g hgv => hset.block g (own_blk hr hgv).2.1 (fun e => hne hr (by decide) g hgv e)
  · intro g hgv
    rcases ho with ho | ho
    · rw [ho] at hgv; exact h.ap g hgv
    · rw [ho] at hgv
      cases hgv
      intro e
      have := (own_blk h1.r2 e).2.1
      omega
  · exact ((h1.fr.wide hgf (fun i hi => .inr (own_blk h1.r1 hi).1)).wide hset (fun i hi => .inr (by dsimp only at hi; omega)))
  · exact ((hA.mono (T := Wr W0 v1 v2) (fun _ h => h.elim)).wide hgf (fun i hi => .inl (.inr (.inr (.inl hi))))).wide hset (fun i hi => .inl (.inl hi))
theorem Eb.app2 {W0 A A1 w' : World} {v1 v2 v' : Value} {ks : List ByteArray} {es : List E} {e0 : E} (h : Eb W0 v1 v2 ks es A) (hA : Fr (fun _ => False) A A1)
    (hr : w'.ownsRow W0.heap.size 9 1 v' (es.length + 1) (es.flatMap E.val ++ e0.val)) (hg : A1.grownBy w' v2.ownBlock) (ho : v'.ownBlock = v2.ownBlock ∨ v'.ownBlock = some A1.heap.size) :
    Eb W0 v1 v' ks (es ++ [e0]) (w'.setCell ⟨W0.heap.size + 1, 0, none⟩ v') ∧ Fr (Wr W0 v1 v2) A (w'.setCell ⟨W0.heap.size + 1, 0, none⟩ v') ∧ w'.cell? ⟨W0.heap.size + 1, 0, none⟩ = some v2 ∧ w'.frozen? ⟨W0.heap.size + 1, 0, none⟩ = false := by
  have h1 := h.quiet hA
  have hb1 : Boxed w' W0.heap.size 39 v1 := h1.b1.kept hg (h1.b1.not_row (by decide) h1.r2)
  have hb2 : Boxed w' (W0.heap.size + 1) 39 v2 := h1.b2.kept hg (h1.b2.not_row (by decide) h1.r2)
  have hgf := Fr.of_grownBy hg
  have hr1 : w'.ownsRow W0.heap.size 9 1 v1 ks.length (ks.map .string) := by
    refine own_same h1.r1 fun g hgv => hg.block g (own_blk h1.r1 hgv).2.1 (fun e => ?_)
    exact h.ap g hgv e.symm
  have hset := Fr.setCell w' ⟨W0.heap.size + 1, 0, none⟩ v'
  have hne : ∀ {e : TypeId} {size : Nat} {v : Value} {n : Nat} {xs : List Value}, w'.ownsRow W0.heap.size e size v n xs → 39 ≠ e → ∀ g, v.ownBlock = some g → g ≠ W0.heap.size + 1 := fun hrow hte g hgv e => hb2.not_row hte hrow (by rw [← e]; exact hgv.symm)
  have hsz : W0.heap.size + 1 < A1.heap.size := h1.b2.lt
  refine ⟨⟨?_, hb2.set v', own_same hr1 fun g hgv => hset.block g (own_blk hr1 hgv).2.1 (fun e => hne hr1 (by decide) g hgv e), ?_, ?_, ?_⟩, ?_, hb2.cell, hb2.frozen⟩
  · exact (hset.block _ hb1.lt (by dsimp only; omega)).trans hb1
  · rw [List.length_append, List.flatMap_append, List.flatMap_singleton]
    exact own_same hr fun g hgv => hset.block g (own_blk hr hgv).2.1 (fun e => hne hr (by decide) g hgv e)
  · intro g hgv
    rcases ho with ho | ho
    · rw [ho]; exact h.ap g hgv
    · rw [ho]
      intro e
      cases e
      have := (own_blk h1.r1 hgv).2.1
      omega
  · exact ((h1.fr.wide hgf (fun i hi => .inr (own_blk h1.r2 hi).1)).wide hset (fun i hi => .inr (by dsimp only at hi; omega)))
  · exact ((hA.mono (T := Wr W0 v1 v2) (fun _ h => h.elim)).wide hgf (fun i hi => .inl (.inr (.inr (.inr hi))))).wide hset (fun i hi => .inl (.inr (.inl hi)))
/-- gathering leaves all but its own memory alone -/
theorem Eb.others {W0 A B : World} {v1 v2 : Value} {ks : List ByteArray} {es : List E} (h : Eb W0 v1 v2 ks es A) (hf : Fr (Wr W0 v1 v2) A B) : KeepsOthers A B := by
  refine ⟨hf.size, fun k o hk hc => (hf.block k (Array.getElem?_eq_some_iff.1 hk).1 (fun hw => ?_)).trans hk⟩
  have hcell : ∃ cs t m, A.heap[k]? = some (.cells cs t m) := by
    rcases hw with rfl | rfl | hw | hw
    · exact ⟨_, _, _, h.b1⟩
    · exact ⟨_, _, _, h.b2⟩
    · obtain ⟨_, _, cs, hb⟩ := own_blk h.r1 hw; exact ⟨_, _, _, hb⟩
    · obtain ⟨_, _, cs, hb⟩ := own_blk h.r2 hw; exact ⟨_, _, _, hb⟩
  obtain ⟨cs, t, m, hb⟩ := hcell
  rw [hk] at hb
  cases hb
  cases hc
theorem Eb.keep {W0 A B : World} {v1 v2 : Value} {ks : List ByteArray} {es : List E} (h : Eb W0 v1 v2 ks es A) (hf : Fr (Wr W0 v1 v2) A B) {d : Nat} {M : DM} (hd : DAt W0 d M) {v : Value} (hb : Boxed A (W0.heap.size + 1 + 1) 135 v) : Keep (fun k _ => k = W0.heap.size + 1 + 1 ∨ Bs (dictL d M) k) A B := by
  refine Keep.of_fr hf fun k cs t m hs hk hw => ?_
  rcases hs with rfl | hs
  · rcases hw with hw | hw | hw | hw
    · omega
    · omega
    · exact hb.not_row (by decide) h.r1 hw.symm
    · exact hb.not_row (by decide) h.r2 hw.symm
  · have := hd.rep.lt hs
    rcases hw with hw | hw | hw | hw
    · omega
    · omega
    · have := (own_blk h.r1 hw).1; omega
    · have := (own_blk h.r2 hw).1; omega
/-- append of one element, as one step of a region that draws its order, inside a fence -/
theorem step_append_in {F : Fence} {n : Nat} {P : Program} {ops : Array Oper} {o : Oper} {a : Act} {w : World} {K : Act → World → Prop} {Q : Exit → Act → World → Prop} {E : Prop} (hgd : o.guard = none) (s x : Operand) (t : TypeId)
    (ho : o.op = .call { callee := .builtin .append, args := #[s, x], argTypes := #[t, t] })
    (base : Nat) (e : TypeId) (i : TypeInfo) (z : Value) (size bytes : Nat) (ht : P.underlying t = some (.slice e)) (hi : P.info? e = some i) (hz : i.zero = some z)
    (hsize : i.size = size) (hby : i.bytes = bytes) (hzs : z.cells.size = size) (hsz : 0 < size)
    (v : Value) (k : Nat) (xs : List Value) (hs : a.eval s = v)
    (ad : Addr) (m c : Nat) (news : List Value) (hx : a.eval x = .slice (some ad) m c) (hl : news.length = m * size) (h1 : ∀ u ∈ news, u.oneCell' = true)
    (h63 : k + m ≤ maxLen) (hbytes : (k + m) * bytes ≤ 140737488355328)
    (hown : w.ownsRow base e size v k xs) (hnews : ∀ j u, news[j]? = some u → w.cell? (ad.add j) = some u) (hbase : base ≤ w.heap.size)
    (h : ∀ v' w', w'.ownsRow base e size v' (k + m) (xs ++ news) → w.grownBy w' v.ownBlock → (v'.ownBlock = v.ownBlock ∨ v'.ownBlock = some w.heap.size) → K (a.put o.dst v') w') :
    if Region.wanted o (yielded ops a.tmps) = true then Oper.wpIn F n P o a w K Q else E := by
  have hw : Region.wanted o (yielded ops a.tmps) = true := by simp [Region.wanted, hgd]
  rw [if_pos hw]
  obtain ⟨v', w', hr, h2, h3, h4, h5⟩ := run_append_own_at (P := P) w base t o.type e i z size bytes ht hi hz hsize hby hzs hsz v k xs hown ad m c news hl hnews h1 h63 hbytes hbase
  unfold Oper.wpIn
  refine ⟨by simp [Oper.about, ho, resolve, Target.leads, Sem.run_pure], ?_⟩
  rw [Oper.semAt_plain F _ _ (by rw [ho]; intro c hc'; cases hc')]
  simp [execOp, ho, resolve, invoke, builtin, hs, hx, hr, Result.andThen]
  exact h v' w' h2 h3 h5
theorem opn_mid {w : World} {d : Nat} {M : DM} (h : DAt w d M) {c pre post : List E} {e : E} (hc : c ∈ opn M) (hs : c = pre ++ e :: post) : w.heap[e.b]? = some (entryObj 199 e (hp post)) ∧ e.val.length = 1 := by
  obtain ⟨i, hi, rfl⟩ := List.getElem_of_mem hc
  have hin : e ∈ entries M := by rw [← opn_flatten h.inv]; exact List.mem_flatten.2 ⟨_, hc, by rw [hs]; simp⟩
  refine ⟨?_, (h.sz e hin).1⟩
  have hg : (opn M)[i]? = some (pre ++ e :: post) := by rw [List.getElem?_eq_getElem hi, hs]
  by_cases hlt : i < M.old.length - M.at_
  · rw [opn_old M i hlt] at hg
    have ho : M.old ≠ [] := by intro e; rw [e] at hg; simp at hg
    exact mid_at (tab_old h ho).1.chains hg
  · rw [opn_young M i hlt] at hg
    have hy : M.young ≠ [] := by intro e; rw [e] at hg; simp at hg
    exact mid_at (tab_young h hy).1.chains hg
theorem opn_le {M : DM} (h : Inv M) {l : List (List E)} {c c1 c2 : List E} (hl : l ++ [c] <+: opn M) (hc : c = c1 ++ c2) : (l.flatten ++ c1).length + c2.length ≤ M.n := by
  obtain ⟨r, hr⟩ := hl
  rw [h.count, ← opn_flatten h, ← hr, hc]
  simp
  omega
theorem flat_mem {α : Type} (f : α → List Value) (n : Nat) (l : List α) (hf : ∀ x ∈ l, (f x).length = n) (k j : Nat) (hk : k < l.length) (hj : j < n) : (l.flatMap f)[k * n + j]? = (f l[k])[j]? := by
  induction l generalizing k with
  | nil => simp at hk
  | cons x l ih =>
    have hx : (f x).length = n := hf x (by simp)
    rw [List.flatMap_cons]
    cases k with
    | zero =>
      rw [Nat.zero_mul, Nat.zero_add, List.getElem?_append_left (by rw [hx]; exact hj)]
      rfl
    | succ k =>
      have := ih (fun y hy => hf y (by simp [hy])) k (by simpa using hk)
      rw [List.getElem?_append_right (by rw [hx, Nat.succ_mul]; omega), hx, show (k + 1) * n + j - n = k * n + j by rw [Nat.succ_mul]; omega]
      exact this
theorem own_at {w : World} {B : Nat} {e : TypeId} {size : Nat} {v : Value} {n : Nat} {xs : List Value} (h : w.ownsRow B e size v n xs) (hx : 0 < xs.length) :
    ∃ g cap, v = .slice (some ⟨g, 0, none⟩) n cap ∧ B ≤ g ∧ ∀ (i : Nat) (u : Value), xs[i]? = some u → w.cell? ⟨g, i, none⟩ = some u := by
  have h0 := h
  rcases h with ⟨h1, ⟨_, hz⟩ | ⟨g, cap, cur, rfl, hb, hg, hnc, hcm, hcs, htake⟩⟩
  · subst hz; simp at h1; rw [List.length_eq_zero_iff.2 h1] at hx; omega
  · refine ⟨g, cap, rfl, hb, fun i u hu => ?_⟩
    have := h0.cells rfl i u hu
    rwa [Addr.add_lit, Nat.zero_add] at this
theorem own_keep {S : Nat → TypeId → Prop} {A B : World} {B0 : Nat} {e : TypeId} {size : Nat} {v : Value} {n : Nat} {xs : List Value} (h : A.ownsRow B0 e size v n xs) (hk : Keep S A B) (hs : ∀ k, B0 ≤ k → S k e) : B.ownsRow B0 e size v n xs :=
  own_same h fun g hg => by
    obtain ⟨hb, _, cs, hc⟩ := own_blk h hg
    rw [hc]
    exact hk g cs _ _ (hs g hb) hc
theorem info_string : (Try.prog.info? 9).map (fun i => (i.zero, i.size, i.bytes)) = some (some (.string ⟨#[]⟩), 1, 16) := by kernel_rfl
theorem info_value : (Try.prog.info? 9).map (fun i => (i.zero, i.size, i.bytes)) = some (some (.string ⟨#[]⟩), 1, 16) := by kernel_rfl
set_option maxRecDepth 100000 in
set_option maxHeartbeats 4000000 in
theorem each1_in (F : Fence) (n : Nat) (hF : F.fn 157) (hFa : F.fn 158) (hFb : F.fn 190) (hro : F.round = none) (hn : 4 ≤ n) (l Bd d : Nat) (M : DM) (n0 : Nat) (Kp : World → World → Prop)
    (hKp : ∀ A B, Kp A B → Keep (fun k t => n0 ≤ k ∧ (t = 9 ∨ t = 9 ∨ t = 39 ∨ t = 39)) A B ∧ Late n0 A B) (J Jx : List E → World → Prop)
    (W : World) (hn0 : n0 ≤ W.heap.size) (hJ : OwnFrom W.heap.size J) (hJx : OwnFrom W.heap.size Jx)
    (hY : ∀ pre x W, J pre W → pre ++ [x] <+: (opn M).flatten → YieldAt F (n - 1) Try.prog l (etE x) W fun e W' =>
      (e = .returned (.bool true) ∧ J (pre ++ [x]) W' ∧ Kp W W') ∨ (e = .returned (.bool false) ∧ Jx (pre ++ [x]) W' ∧ Late 0 W W'))
    (hA : Al d Bd M W) (hval : ∀ e ∈ (opn M).flatten, ∃ xx : ByteArray, e.val = [.string xx]) (hMn : M.n ≤ 8796093022000) (h0 : J [] W) :
    CallsIn F n Try.prog 157 #[.func (.yield l) #[] #[], .pointer (some ⟨Bd, 0, none⟩)] W fun e W' => (∃ v, e = .returned v) ∧
      ((∃ xs, xs = (opn M).flatten ∧ J xs W') ∨ (∃ pre, pre <+: (opn M).flatten ∧ Jx pre W')) := by
  have HA := Lib.hid hA
  have hcb : W.cell? ⟨Bd, 0, none⟩ = some (.pointer (some ⟨d, 0, none⟩)) := by rw [cell_of_blk hA.box]; rfl
  have hlt : Bd < W.heap.size := (Array.getElem?_eq_some_iff.1 hA.box).1
  have HY := Lib.hid hY
  have HKP := Lib.hid hKp
  have HJ := Lib.hid hJ
  have HJX := Lib.hid hJx
  have H0 := Lib.hid h0
  have HVAL := Lib.hid hval
  have h1 : 1 ≤ n := by omega
  obtain ⟨i0, hi, hz0, hz1, hz2⟩ := info_parts info_string
  obtain ⟨j0, hj, hy0, hy1, hy2⟩ := info_parts info_value
  have HI := Lib.hid hi
  have HZ0 := Lib.hid hz0
  have HZ1 := Lib.hid hz1
  have HZ2 := Lib.hid hz2
  have HJ0 := Lib.hid hj
  have HY0 := Lib.hid hy0
  have HY1 := Lib.hid hy1
  have HY2 := Lib.hid hy2
  clear hA hval hY hKp hJ hJx h0 hi hz0 hz1 hz2 hj hy0 hy1 hy2
  refine callsIn_of_wp_marks Try.func157 rfl hF ?_ hro
  simp only [Try.ntmps157, List.size_toArray, List.length_cons, List.length_nil, Nat.reduceAdd, Nat.reduceSub, Array.replicate_succ, Array.replicate_zero, List.push_toArray, List.append_toArray, List.nil_append, List.cons_append]
  gi_wp2_with (gi_at_call 158; refine (all_in F (n - 1) hFa hro d _).mono ?_; rintro e w' ⟨rfl, rfl⟩)
  have bO := Boxed.new W 39 (.slice none 0 0)
  have bP := Boxed.new (W.alloc (.cells #[.slice none 0 0] 39)) 39 (.slice none 0 0)
  have bN := Boxed.new ((W.alloc (.cells #[.slice none 0 0] 39)).alloc (.cells #[.slice none 0 0] 39)) 135 (.pointer (some ⟨d, 0, none⟩))
  simp only [World.size_alloc] at bP bN
  obtain ⟨Wl, hWl⟩ : ∃ Wl, ((W.alloc (.cells #[.slice none 0 0] 39)).alloc (.cells #[.slice none 0 0] 39)).alloc (.cells #[.pointer (some ⟨d, 0, none⟩)] 135) = Wl := ⟨_, rfl⟩
  have hsz : W.heap.size + 3 = Wl.heap.size := by rw [← hWl]; simp
  have hE0 : Eb W (.slice none 0 0) (.slice none 0 0) [] [] Wl := by
    rw [← hWl]
    exact ⟨(bO.alloc _).alloc _, bP.alloc _, World.ownsRow_nil _ _ _ _, World.ownsRow_nil _ _ _ _, (fun g h => by cases h), ((Fr.alloc (fun _ => False) W _).thenAlloc _).thenAlloc _⟩
  rw [hWl] at bN ⊢
  have HAl : Hid (Al d (W.heap.size + 1 + 1) M Wl) := ⟨HA.out.dat.fr hE0.fr (fun _ _ h => h), bN⟩
  have HE0 := Lib.hid hE0
  have HSZ := Lib.hid hsz
  clear hE0 bO bP bN hWl hcb hsz
  refine wpIn_rangeV hro h1 (gf := 190) (lb := #[.pointer (some ⟨W.heap.size + 1 + 1, 0, none⟩)]) rfl hFb (enters_of Try.func190 (by kernel_rfl) rfl)
    (all1_stops F (n - 1) hFb hro (by omega) (W.heap.size + 1 + 1) d M (Keep (fun k _ => k = W.heap.size + 1 + 1 ∨ Bs (dictL d M) k)) (fun _ _ h => h) Wl HAl.out)
    (fun _ _ _ h k => h.trans k) (fun V l r r' _ h => Keep.putLoop _ V l r _ h) (Below.refl _ _) (fun _ => rfl)
    (fun pre V => (∃ v1 v2, Eb W v1 v2 (pre.flatten.map E.key) pre.flatten V) ∧ Boxed V (W.heap.size + 1 + 1) 135 (.pointer (some ⟨d, 0, none⟩)))
    (fun _ _ _ => False)
    ?own (fun _ _ _ _ _ hs _ _ => hs) ⟨⟨_, _, HE0.out⟩, HAl.out.box⟩
    (fun x => { tmps := #[.func (.yield l) #[] #[], .pointer (some ⟨Bd, 0, none⟩), undef, .pointer (some ⟨W.heap.size, 0, none⟩), .pointer (some ⟨W.heap.size + 1, 0, none⟩), hp x, undef, undef, .pointer (some ⟨d, 0, none⟩), .bool false, .pointer (some ⟨d, 0, none⟩), .func (.func 190) #[] #[.pointer (some ⟨W.heap.size + 1 + 1, 0, none⟩)], hp x, undef, undef, undef, undef, undef, undef, undef, undef, undef, undef, undef, undef, undef, undef, undef, undef, undef, undef, undef, undef, undef, undef, undef, undef, undef, undef, undef, undef, undef, undef, undef, undef, undef, undef, undef, undef], defers := [] }) ?assign ?body ?done ?stop
  case own =>
    rintro pre A B row ⟨⟨v1, v2, hE⟩, hb⟩ hg hr
    have hr' : ∀ r, row = some r → W.heap.size ≤ r ∧ ∃ o : Obj, A.heap[r]? = some o ∧ o.isCells = false := fun r e => ⟨by have := (hr r e).1; have := HSZ.out; omega, (hr r e).2⟩
    refine ⟨⟨v1, v2, hE.turn hg hr'⟩, hb.kept hg (fun e => ?_)⟩
    obtain ⟨_, o, ho, hc⟩ := hr _ e.symm
    rw [show A.heap[W.heap.size + 1 + 1]? = _ from hb] at ho
    cases ho
    cases hc
  case assign =>
    intro lr x V K hK
    unfold bkE
    gi_wp2
    exact hK
  case body =>
    rintro lr pre x V ⟨⟨v1, v2, hE⟩, hb⟩ hv
    have hx : x ∈ opn M := hv.subset (by simp)
    have HX := Lib.hid hx
    have HV := Lib.hid hv
    have HE := Lib.hid hE
    have HB := Lib.hid hb
    clear hE hb hv hx HE0
    gi_wp2_with fail
    gi_loopg [5] x.length (fun gh p wr => ∃ (c1 c2 : List E), p = hp c2 ∧ Hid (x = c1 ++ c2) ∧ Hid (c2.length ≤ gh) ∧ Hid (∃ v1 v2, Eb W v1 v2 ((pre.flatten ++ c1).map E.key) (pre.flatten ++ c1) wr) ∧ Hid (Boxed wr (W.heap.size + 1 + 1) 135 (.pointer (some ⟨d, 0, none⟩))) ∧ Hid (KeepsOthers V wr) ∧ Hid (Keep (fun k _ => k = W.heap.size + 1 + 1 ∨ Bs (dictL d M) k) V wr))
    case atStart => exact ⟨[], x, rfl, (show x = [] ++ x from rfl), Nat.le_refl _, ⟨v1, v2, by rw [List.append_nil]; exact HE.out⟩, HB.out, KeepsOthers.refl _, Keep.refl _ _⟩
    case round =>
      obtain ⟨c1, c2, rfl, HXC, HL, HE1, HB1, HKO, HKE⟩ := hrel
      obtain ⟨wo, rfl⟩ : ∃ x, x = wr := ⟨_, rfl⟩
      clear HE HB
      cases c2 with
      | nil =>
        have hp0 : hp ([] : List E) = .pointer none := rfl
        rw [hp0]
        gi_wp2
        obtain ⟨u1, u2, hE⟩ := HE1.out
        have hxc := HXC.out
        rw [List.append_nil] at hxc
        refine ⟨HKO.out, HKE.out, ⟨u1, u2, ?_⟩, HB1.out⟩
        have e1 : (pre ++ [x]).flatten = pre.flatten ++ c1 := by rw [hxc]; simp
        rw [e1]
        exact hE
      | cons e c2 =>
        have hp0 : hp (e :: c2) = .pointer (some ⟨e.b, 0, none⟩) := rfl
        obtain ⟨u1, u2, hE⟩ := HE1.out
        have hle := opn_le HA.out.dat.inv HV.out HXC.out
        simp only [List.length_cons] at hle
        obtain ⟨N1, hN1⟩ : ∃ N, (pre.flatten ++ c1).length = N := ⟨_, rfl⟩
        have hnk : ((pre.flatten ++ c1).map E.key).length = N1 := by rw [List.length_map]; exact hN1
        rw [hN1] at hle
        have hN2 : N1 ≤ 8796093021999 := by omega
        have hMID : Hid (∀ V : World, Fr (fun _ => False) W V → V.heap[e.b]? = some (entryObj 199 e (hp c2)) ∧ e.val.length = 1) := fun V hf => opn_mid (HA.out.dat.fr hf (fun _ _ h => h)) HX.out HXC.out
        obtain ⟨hmid, hsz⟩ := hMID.out wo hE.fr
        unfold entryObj at hmid
        have hlt2 : e.b < W.heap.size := by
          have := (opn_mid HA.out.dat HX.out HXC.out).1
          exact (Array.getElem?_eq_some_iff.1 this).1
        have hc0 : wo.cell? ⟨e.b, 0, none⟩ = some (.string e.key) := by rw [cell_of_blk hmid]; rfl
        have hcb := hE.b1.cell
        have hbl1 : W.heap.size < wo.heap.size := hE.b1.lt
        have HEo := Lib.hid hE
        have HNK := Lib.hid hnk
        have HN1 := Lib.hid hN1
        have HSZV := Lib.hid hsz
        rw [hp0]
        clear hE hmid hsz hle hnk hN1 HE1
        gi_upto_region 7 with (fail)
        gi_cut [25, 33, 34, 35, 36, 37, 38, 39, 40, 41, 42, 43, 44, 45, 46, 47, 48] from 19 (fun t25 t33 t34 t35 t36 t37 t38 t39 t40 t41 t42 t43 t44 t45 t46 t47 t48 wc => ∃ v1, t25 = v1 ∧ (t33 = undef ∧ t34 = undef ∧ t35 = undef ∧ t36 = undef ∧ t37 = undef ∧ t38 = undef ∧ t39 = undef ∧ t40 = undef ∧ t41 = undef ∧ t42 = undef ∧ t43 = undef ∧ t44 = undef ∧ t45 = undef ∧ t46 = undef ∧ t47 = undef ∧ t48 = undef) ∧ Hid (Eb W v1 u2 ((pre.flatten ++ c1).map E.key ++ [e.key]) (pre.flatten ++ c1) wc) ∧ Hid (Fr (Wr W u1 u2) wo wc))
        case first =>
          have hro1 : HEo.out.r1.1 = HEo.out.r1.1 := rfl
          clear hro1
          have HR1 : Hid (∀ V : World, Fr (fun _ => False) wo V → V.ownsRow W.heap.size 9 1 u1 N1 (((pre.flatten ++ c1).map E.key).map .string)) := fun V hf => by have h := (HEo.out.quiet hf).r1; rw [HNK.out] at h; exact h
          have HB0 : Hid (W.heap.size ≤ wo.heap.size) := HEo.out.fr.size
          have HAP : Hid (∀ (A1 w' : World) (v' : Value), Fr (fun _ => False) wo A1 → w'.ownsRow W.heap.size 9 1 v' (N1 + 1) (((pre.flatten ++ c1).map E.key).map .string ++ [.string e.key]) → A1.grownBy w' u1.ownBlock → (v'.ownBlock = u1.ownBlock ∨ v'.ownBlock = some A1.heap.size) →
              Eb W v' u2 ((pre.flatten ++ c1).map E.key ++ [e.key]) (pre.flatten ++ c1) (w'.setCell ⟨W.heap.size, 0, none⟩ v') ∧ Fr (Wr W u1 u2) wo (w'.setCell ⟨W.heap.size, 0, none⟩ v') ∧ w'.cell? ⟨W.heap.size, 0, none⟩ = some u1 ∧ w'.frozen? ⟨W.heap.size, 0, none⟩ = false) := fun A1 w' v' hf hr hg ho => HEo.out.app1 hf (by rw [HNK.out]; exact hr) hg ho
          refine wpIn_region_any (by kernel_rfl) ?_
          change wpAnyIn _ _ _ _ _ _ _ _ _ (World.drew _)
          repeat' (first
            | (refine wpAnyIn_done (by decide +kernel) ?_ _)
            | (refine wpAnyIn_ready (rs := [0, 1]) (by decide +kernel) (by simp) (AllReadyIn.cons rfl (fun K hK => ?_) (AllReadyIn.cons rfl (fun K hK => ?_) AllReadyIn.nil))) | (refine wpAnyIn_ready (rs := [0, 2]) (by decide +kernel) (by simp) (AllReadyIn.cons rfl (fun K hK => ?_) (AllReadyIn.cons rfl (fun K hK => ?_) AllReadyIn.nil))) | (refine wpAnyIn_ready (rs := [0, 3]) (by decide +kernel) (by simp) (AllReadyIn.cons rfl (fun K hK => ?_) (AllReadyIn.cons rfl (fun K hK => ?_) AllReadyIn.nil))) | (refine wpAnyIn_ready (rs := [0, 4]) (by decide +kernel) (by simp) (AllReadyIn.cons rfl (fun K hK => ?_) (AllReadyIn.cons rfl (fun K hK => ?_) AllReadyIn.nil))) | (refine wpAnyIn_ready (rs := [0, 5]) (by decide +kernel) (by simp) (AllReadyIn.cons rfl (fun K hK => ?_) (AllReadyIn.cons rfl (fun K hK => ?_) AllReadyIn.nil))) | (refine wpAnyIn_ready (rs := [0]) (by decide +kernel) (by simp) (AllReadyIn.cons rfl (fun K hK => ?_) AllReadyIn.nil)) | (refine wpAnyIn_ready (rs := [1]) (by decide +kernel) (by simp) (AllReadyIn.cons rfl (fun K hK => ?_) AllReadyIn.nil)) | (refine wpAnyIn_ready (rs := [2]) (by decide +kernel) (by simp) (AllReadyIn.cons rfl (fun K hK => ?_) AllReadyIn.nil)) | (refine wpAnyIn_ready (rs := [3]) (by decide +kernel) (by simp) (AllReadyIn.cons rfl (fun K hK => ?_) AllReadyIn.nil)) | (refine wpAnyIn_ready (rs := [4]) (by decide +kernel) (by simp) (AllReadyIn.cons rfl (fun K hK => ?_) AllReadyIn.nil)) | (refine wpAnyIn_ready (rs := [5]) (by decide +kernel) (by simp) (AllReadyIn.cons rfl (fun K hK => ?_) AllReadyIn.nil)) | (refine wpAnyIn_ready (rs := [6]) (by decide +kernel) (by simp) (AllReadyIn.cons rfl (fun K hK => ?_) AllReadyIn.nil)) | (refine wpAnyIn_ready (rs := [7]) (by decide +kernel) (by simp) (AllReadyIn.cons rfl (fun K hK => ?_) AllReadyIn.nil))
            | (refine step_append_in rfl (.tmp 19) (.tmp 24) 39 rfl W.heap.size 9 i0 (.string ⟨#[]⟩) 1 16 Try.underlying39 HI.out HZ0.out HZ1.out HZ2.out rfl (by decide) u1 N1 (((pre.flatten ++ c1).map E.key).map .string) rfl ⟨wo.heap.size, 0, none⟩ 1 1 [.string e.key] rfl rfl (by simp [Value.oneCell']) (by unfold maxLen; omega) (by omega) ?_ ?_ ?_ ?_; (refine HR1.out _ ?_; exact ((Fr.drew (fun _ => False) wo).thenAlloc _)); exact cell_one_new _ _ _; (have := HB0.out; simp; omega); (intro v' w' hr' hg' ho'; obtain ⟨q1, q2, q3, q4⟩ := HAP.out _ w' v' ((Fr.drew (fun _ => False) wo).thenAlloc _) hr' hg' ho'; have Q1 := Lib.hid q1; have Q2 := Lib.hid q2; obtain ⟨va, vc, rfl⟩ := owns_slice hr'; clear hr' hg' ho' q1 q2; refine hK _ _ ?_; clear hK K))
            | (go_simp; refine hK _ _ ?_; clear hK K))
          all_goals
            gi_wp2
            gi_meet
            case rel => exact ⟨_, rfl, ⟨rfl, rfl, rfl, rfl, rfl, rfl, rfl, rfl, rfl, rfl, rfl, rfl, rfl, rfl, rfl, rfl⟩, Q1.out, Q2.out⟩
        case rest =>
          obtain ⟨_, rfl, ⟨rfl, rfl, rfl, rfl, rfl, rfl, rfl, rfl, rfl, rfl, rfl, rfl, rfl, rfl, rfl, rfl⟩, HE2, HF2⟩ := hcut
          have HKO2 : Hid (KeepsOthers V wc) := HKO.out.trans (HEo.out.others HF2.out)
          have HKE2 : Hid (Keep (fun k _ => k = W.heap.size + 1 + 1 ∨ Bs (dictL d M) k) V wc) := HKE.out.trans (HEo.out.keep HF2.out HA.out.dat HB1.out)
          have HB2 : Hid (Boxed wc (W.heap.size + 1 + 1) 135 (.pointer (some ⟨d, 0, none⟩))) := HEo.out.keep HF2.out HA.out.dat HB1.out _ _ _ _ (.inl rfl) HB1.out
          obtain ⟨wo, rfl⟩ : ∃ x, x = wc := ⟨_, rfl⟩
          clear HKO HKE HEo HF2 HB1 hc0 hcb hbl1
          obtain ⟨hmid, hsz⟩ := hMID.out wo HE2.out.fr
          unfold entryObj at hmid
          have hcb := HE2.out.b2.cell
          have hbl2 : W.heap.size + 1 < wo.heap.size := HE2.out.b2.lt
          have hbl1 : W.heap.size < wo.heap.size := HE2.out.b1.lt
          have hnx : Hid (∀ V : World, Fr (fun _ => False) W V → V.cell? ⟨e.b, 2, none⟩ = some (hp c2)) := fun V hf => by
            obtain ⟨h1, h2⟩ := hMID.out V hf
            unfold entryObj at h1
            rw [cell_of_blk h1]
            match hv : e.val, h2 with
            | [x0], _ => rfl
          obtain ⟨xx, hv⟩ := HVAL.out e (List.mem_flatten.2 ⟨x, HX.out, by rw [HXC.out]; simp⟩)
          have hc1 : wo.cell? ⟨e.b, 1, none⟩ = some (.string xx) := by rw [cell_of_blk hmid, hv]; rfl
          have HV2 := Lib.hid hv
          clear hmid hsz hv
          gi_upto_region 8 with (fail)
          have HR1 : Hid (∀ V : World, Fr (fun _ => False) wo V → V.ownsRow W.heap.size 9 1 u2 N1 ((pre.flatten ++ c1).flatMap E.val)) := fun V hf => by have h := (HE2.out.quiet hf).r2; rw [HN1.out] at h; exact h
          have HB0 : Hid (W.heap.size ≤ wo.heap.size) := HE2.out.fr.size
          have HAP : Hid (∀ (A1 w' : World) (v' : Value), Fr (fun _ => False) wo A1 → w'.ownsRow W.heap.size 9 1 v' (N1 + 1) ((pre.flatten ++ c1).flatMap E.val ++ [.string xx]) → A1.grownBy w' u2.ownBlock → (v'.ownBlock = u2.ownBlock ∨ v'.ownBlock = some A1.heap.size) →
              Eb W u25 v' ((pre.flatten ++ c1).map E.key ++ [e.key]) ((pre.flatten ++ c1) ++ [e]) (w'.setCell ⟨W.heap.size + 1, 0, none⟩ v') ∧ Fr (Wr W u25 u2) wo (w'.setCell ⟨W.heap.size + 1, 0, none⟩ v') ∧ w'.cell? ⟨W.heap.size + 1, 0, none⟩ = some u2 ∧ w'.frozen? ⟨W.heap.size + 1, 0, none⟩ = false) := fun A1 w' v' hf hr hg ho => HE2.out.app2 hf (by rw [HN1.out, HV2.out]; exact hr) hg ho
          refine wpIn_region_any (by kernel_rfl) ?_
          change wpAnyIn _ _ _ _ _ _ _ _ _ (World.drew _)
          repeat' (first
            | (refine wpAnyIn_done (by decide +kernel) ?_ _)
            | (refine wpAnyIn_ready (rs := [0, 1]) (by decide +kernel) (by simp) (AllReadyIn.cons rfl (fun K hK => ?_) (AllReadyIn.cons rfl (fun K hK => ?_) AllReadyIn.nil))) | (refine wpAnyIn_ready (rs := [0, 2]) (by decide +kernel) (by simp) (AllReadyIn.cons rfl (fun K hK => ?_) (AllReadyIn.cons rfl (fun K hK => ?_) AllReadyIn.nil))) | (refine wpAnyIn_ready (rs := [0, 3]) (by decide +kernel) (by simp) (AllReadyIn.cons rfl (fun K hK => ?_) (AllReadyIn.cons rfl (fun K hK => ?_) AllReadyIn.nil))) | (refine wpAnyIn_ready (rs := [0, 4]) (by decide +kernel) (by simp) (AllReadyIn.cons rfl (fun K hK => ?_) (AllReadyIn.cons rfl (fun K hK => ?_) AllReadyIn.nil))) | (refine wpAnyIn_ready (rs := [0, 5]) (by decide +kernel) (by simp) (AllReadyIn.cons rfl (fun K hK => ?_) (AllReadyIn.cons rfl (fun K hK => ?_) AllReadyIn.nil))) | (refine wpAnyIn_ready (rs := [0]) (by decide +kernel) (by simp) (AllReadyIn.cons rfl (fun K hK => ?_) AllReadyIn.nil)) | (refine wpAnyIn_ready (rs := [1]) (by decide +kernel) (by simp) (AllReadyIn.cons rfl (fun K hK => ?_) AllReadyIn.nil)) | (refine wpAnyIn_ready (rs := [2]) (by decide +kernel) (by simp) (AllReadyIn.cons rfl (fun K hK => ?_) AllReadyIn.nil)) | (refine wpAnyIn_ready (rs := [3]) (by decide +kernel) (by simp) (AllReadyIn.cons rfl (fun K hK => ?_) AllReadyIn.nil)) | (refine wpAnyIn_ready (rs := [4]) (by decide +kernel) (by simp) (AllReadyIn.cons rfl (fun K hK => ?_) AllReadyIn.nil)) | (refine wpAnyIn_ready (rs := [5]) (by decide +kernel) (by simp) (AllReadyIn.cons rfl (fun K hK => ?_) AllReadyIn.nil)) | (refine wpAnyIn_ready (rs := [6]) (by decide +kernel) (by simp) (AllReadyIn.cons rfl (fun K hK => ?_) AllReadyIn.nil)) | (refine wpAnyIn_ready (rs := [7]) (by decide +kernel) (by simp) (AllReadyIn.cons rfl (fun K hK => ?_) AllReadyIn.nil))
            | (refine step_append_in rfl (.tmp 26) (.tmp 31) 39 rfl W.heap.size 9 j0 (.string ⟨#[]⟩) 1 16 Try.underlying39 HJ0.out HY0.out HY1.out HY2.out rfl (by decide) u2 N1 ((pre.flatten ++ c1).flatMap E.val) rfl ⟨wo.heap.size, 0, none⟩ 1 1 [.string xx] rfl rfl (by simp [Value.oneCell']) (by unfold maxLen; omega) (by omega) ?_ ?_ ?_ ?_; (refine HR1.out _ ?_; exact ((Fr.drew (fun _ => False) wo).thenAlloc _)); exact cell_one_new _ _ _; (have := HB0.out; simp; omega); (intro v' w' hr' hg' ho'; obtain ⟨q1, q2, q3, q4⟩ := HAP.out _ w' v' ((Fr.drew (fun _ => False) wo).thenAlloc _) hr' hg' ho'; have Q1 := Lib.hid q1; have Q2 := Lib.hid q2; obtain ⟨va, vc, rfl⟩ := owns_slice hr'; clear hr' hg' ho' q1 q2; refine hK _ _ ?_; clear hK K))
            | (go_simp; refine hK _ _ ?_; clear hK K))
          all_goals
            obtain ⟨wc, hwc⟩ : ∃ wc, w'.setCell ⟨W.heap.size + 1, 0, none⟩ (.slice va (N1 + 1) vc) = wc := ⟨_, rfl⟩
            rw [hwc] at Q1 Q2 ⊢
            clear hwc
            have HKO3 : Hid (KeepsOthers V wc) := HKO2.out.trans (HE2.out.others Q2.out)
            have HKE3 : Hid (Keep (fun k _ => k = W.heap.size + 1 + 1 ∨ Bs (dictL d M) k) V wc) := HKE2.out.trans (HE2.out.keep Q2.out HA.out.dat HB2.out)
            have HB3 : Hid (Boxed wc (W.heap.size + 1 + 1) 135 (.pointer (some ⟨d, 0, none⟩))) := HE2.out.keep Q2.out HA.out.dat HB2.out _ _ _ _ (.inl rfl) HB2.out
            have hc2 := hnx.out wc Q1.out.fr
            have HXC2 : Hid (x = (c1 ++ [e]) ++ c2) := by show _ = _; rw [HXC.out, List.append_assoc]; rfl
            have HE4 : Hid (∃ v1 v2, Eb W v1 v2 ((pre.flatten ++ (c1 ++ [e])).map E.key) (pre.flatten ++ (c1 ++ [e])) wc) := ⟨u25, _, by rw [← List.append_assoc, List.map_append]; exact Q1.out⟩
            clear hc1 hcb q3 q4 hbl1 hbl2
            gi_wp2
            gi_roundg c2.length
            case measure => have := HL.out; simp only [List.length_cons] at this; omega
            case rel => exact ⟨c1 ++ [e], c2, rfl, HXC2.out, Nat.le_refl _, HE4.out, HB3.out, HKO3.out, HKE3.out⟩
  case done =>
    rintro D ys V hD rfl ⟨⟨v1, v2, hE⟩, hb⟩ hK
    have HE := Lib.hid hE
    have HK := Lib.hid hK
    have HD := Lib.hid hD
    have hN : (opn M).flatten.length = M.n := by rw [opn_flatten HA.out.dat.inv, HA.out.dat.inv.count]
    obtain ⟨N, hN2⟩ : ∃ N, (opn M).flatten.length = N := ⟨_, rfl⟩
    have hN3 : N ≤ 8796093022000 := by omega
    have hNk : ((opn M).flatten.map E.key).length = N := by rw [List.length_map]; exact hN2
    have hr1 := hE.r1
    have hr2 := hE.r2
    rw [hNk] at hr1
    rw [hN2] at hr2
    obtain ⟨a1, c1, rfl⟩ := owns_slice hr1
    obtain ⟨a2, c2, rfl⟩ := owns_slice hr2
    have HR1 := Lib.hid hr1
    have HR2 := Lib.hid hr2
    have hc1 := hE.b1.cell
    have HN2 := Lib.hid hN2
    have hsz := HSZ.out
    have HJ1 : Hid (J [] V) := HJ.out [] W V none H0.out ⟨hE.fr.os, hE.fr.tape, hE.fr.output, hE.fr.size, fun k hk _ => hE.fr.block k hk (fun h => h)⟩ (fun r e => by cases e)
    clear hE hb hK hD hN hN2 hNk hr1 hr2 HE0 HAl hsz
    gi_wp2
    gi_loopw [6, 7, 35] (fun _ _ i wr => ∃ (k : Nat) (pre : List E), i = .int .i64 k ∧ k ≤ N ∧ Hid (pre = (opn M).flatten.take k) ∧ Hid (Keep (fun k t => n0 ≤ k ∧ (t = 9 ∨ t = 9 ∨ t = 39 ∨ t = 39)) V wr) ∧ Hid (Late n0 V wr) ∧ Hid (J pre wr)) (fun _ _ i _ => N - (intOf i).toNat)
    case atStart => exact ⟨0, [], rfl, by omega, (show _ = _ from rfl), Keep.refl _ _, (fun _ _ _ h => h), HJ1.out⟩
    case round =>
      obtain ⟨k, pre, rfl, hk, HPR, HKP2, HLT, HJ2⟩ := hrel
      clear HJ1 hc1
      have HD2 : Hid (wr.heap[D]? = some (.deferred (some []))) := HLT.out D _ (by have := HD.out; have := HSZ.out; omega) HK.out
      by_cases hltk : k < N
      · obtain ⟨e, he⟩ : ∃ e, (opn M).flatten[k]? = some e := ⟨_, List.getElem?_eq_getElem (by rw [HN2.out]; exact hltk)⟩
        have hmem : e ∈ (opn M).flatten := List.mem_of_getElem? he
        obtain ⟨xx, hv⟩ := HVAL.out e hmem
        have hk1 : ((opn M).flatten.map E.key).map Value.string = (opn M).flatten.map fun e => .string e.key := by rw [List.map_map]; rfl
        obtain ⟨g1, cap1, q1, -, hcell1⟩ := own_at (own_keep HR1.out HKP2.out (fun k h => ⟨by omega, .inl rfl⟩)) (by rw [List.length_map, List.length_map, HN2.out]; omega)
        obtain ⟨g2, cap2, q2, -, hcell2⟩ := own_at (own_keep HR2.out HKP2.out (fun k h => ⟨by omega, .inr (.inl rfl)⟩)) (by have := HR2.out.1; rw [this]; omega)
        cases q1
        cases q2
        have hcx := hcell1 k (.string e.key) (by rw [hk1, List.getElem?_map, he]; rfl)
        have hcv := hcell2 (k * 1 + 0) (.string xx) (by
          obtain ⟨hk3, he3⟩ := List.getElem?_eq_some_iff.1 he
          rw [flat_mem E.val 1 _ (fun y hy => by obtain ⟨z, hz⟩ := HVAL.out y hy; rw [hz]; rfl) k 0 hk3 (by decide), he3, hv]
          rfl)
        rw [Nat.mul_one, Nat.add_zero] at hcv
        have hcb2 : wr.cell? ⟨W.heap.size + 1, 0, none⟩ = some (.slice (some ⟨g2, 0, none⟩) N c2) := (show Boxed wr (W.heap.size + 1) 39 _ from HKP2.out _ _ _ _ ⟨by omega, .inr (.inr (.inr rfl))⟩ HE.out.b2).cell
        have HPR2 : Hid (pre ++ [e] = (opn M).flatten.take (k + 1)) := by show _ = _; rw [HPR.out, List.take_add_one, he]; rfl
        obtain ⟨fn, tmps, assign, body, hy, hR⟩ := HY.out pre e wr HJ2.out (by rw [HPR2.out]; exact List.take_prefix _ _)
        dsimp only [etE] at hy
        rw [hv] at hy
        dsimp only [List.headD_cons] at hy
        have HR := Lib.hid hR
        have b0 : (0 : Int) ≤ (k : Int) := by omega
        have b1 : (k : Int) < (N : Int) := by omega
        clear hR hk1 hcell1 hcell2 he hmem hv
        gi_wp2
        refine HR.out.mono ?_
        rintro e3 W3 (⟨rfl, hJ3, hk3⟩ | ⟨rfl, hJx3, hlate⟩)
        · obtain ⟨hk4, hk5⟩ := HKP.out _ _ hk3
          have HK3 := Lib.hid (HKP2.out.trans hk4)
          have HL3 := Lib.hid (HLT.out.trans hk5)
          have HJ3 := Lib.hid hJ3
          clear hJ3 hk3 hk4 hk5
          gi_wp2
          go_roundw
          case rel => exact ⟨k + 1, pre ++ [e], by go_num, by omega, HPR2, HK3, HL3, HJ3⟩
          case measure => simp [intOf]; omega
        · have HJ3 := Lib.hid hJx3
          have HD3 : Hid (W3.heap[D]? = some (.deferred (some []))) := hlate D _ (Nat.zero_le _) HD2.out
          clear hJx3 hlate
          gi_wp2
          refine ⟨by simp, .inl ⟨_, _, rfl, run_takeDeferred HD3.out, ?_⟩⟩
          refine ⟨_, results_none rfl _ _ _, ⟨_, rfl⟩, .inr ⟨pre ++ [e], by rw [HPR2.out]; exact List.take_prefix _ _, ?_⟩⟩
          exact HJX.out.putObj _ HJ3.out (by have := HD.out; have := HSZ.out; omega) HD3.out rfl
      · obtain rfl : k = N := by omega
        gi_wp2
        refine ⟨by simp, .inl ⟨_, _, rfl, run_takeDeferred HD2.out, ?_⟩⟩
        refine ⟨_, results_none rfl _ _ _, ⟨_, rfl⟩, .inl ⟨pre, by rw [HPR.out, List.take_of_length_le (by rw [HN2.out]; exact Nat.le_refl _)], ?_⟩⟩
        exact HJ.out.putObj _ HJ2.out (by have := HD.out; have := HSZ.out; omega) HD2.out rfl
  case stop =>
    rintro D c pre V _ _ h _
    exact h.elim
end Go.Proofs.Ytgomilodeaafdaa.Ds
namespace Go.Proofs.Ytgomilodeaafdaa.Ds
open Go.RowKit Go.Shelf
attribute [local go_sem] Oper.semAt_some
set_option maxRecDepth 100000 in
theorem each_in (F : Fence) (n : Nat) (hF : F.fn 100) (hro : F.round = none) (p : Option Addr) (w : World) :
    CallsIn F n Try.prog 100 #[.pointer p] w fun e w' => e = .returned (.func (.func 157) #[] #[.pointer (some ⟨w.heap.size, 0, none⟩)]) ∧ w' = w.alloc (.cells #[.pointer p] 135) := by
  refine callsIn_of_wp Try.func100 rfl hF ?_ hro
  simp only [Try.ntmps100, List.size_toArray, List.length_cons, List.length_nil, Nat.reduceAdd, Nat.reduceSub, Array.replicate_succ, Array.replicate_zero, List.push_toArray, List.append_toArray, List.nil_append, List.cons_append]
  gi_wp2
  go_ret
  exact ⟨rfl, rfl⟩
/-- what a body may not turn: the iterator's own memory -/
def EachS (n0 : Nat) (k : Nat) (t : TypeId) : Prop := n0 ≤ k ∧ (t = 9 ∨ t = 9 ∨ t = 39 ∨ t = 39)
def EachK (n0 : Nat) (A B : World) : Prop := Keep (EachS n0) A B ∧ Late n0 A B
theorem EachK.trans {n0 : Nat} {A B C : World} (h : EachK n0 A B) (h' : EachK n0 B C) : EachK n0 A C := ⟨h.1.trans h'.1, h.2.trans h'.2⟩
theorem EachK.loop (n0 : Nat) (W : World) (l : Nat) (r r' : Loop) (h : W.heap[l]? = some (.loop r)) : EachK n0 W (W.putObj l (.loop r')) := ⟨Keep.putLoop _ W l r _ h, Late.putLoop n0 W l r _ h⟩
theorem each_stops (F : Fence) (n : Nat) (hF : F.fn 157) (hFa : F.fn 158) (hFb : F.fn 190) (hro : F.round = none) (hn : 4 ≤ n) (Bd d : Nat) (M : DM) (n0 : Nat) (w : World) (hn0 : n0 ≤ w.heap.size)
    (hA : Al d Bd M w) (hval : ∀ e ∈ (opn M).flatten, ∃ xx : ByteArray, e.val = [.string xx]) (hMn : M.n ≤ 8796093022000) :
    SeqV F n Try.prog 157 #[.pointer (some ⟨Bd, 0, none⟩)] etE (EachK n0) (fun pre => pre <+: (opn M).flatten) (fun xs => xs = (opn M).flatten) (fun pre => pre <+: (opn M).flatten) w := fun l J Jx W hW hJ hJx hY h0 =>
  each1_in F n hF hFa hFb hro hn l Bd d M n0 (EachK n0) (fun _ _ h => h) J Jx W (Nat.le_trans hn0 hW.size) hJ hJx hY
    (hA.keep fun k cs t m hk h => (hW.block k (Array.getElem?_eq_some_iff.1 h).1).trans h) hval hMn h0
/-- a nil table: nothing is told -/
theorem each_none (F : Fence) (n : Nat) (hF : F.fn 157) (hro : F.round = none) (Bd : Nat) (Kp : World → World → Prop) (w : World) (hb : w.heap[Bd]? = some (.cells #[.pointer none] 135 (0, 0))) :
    SeqV F n Try.prog 157 #[.pointer (some ⟨Bd, 0, none⟩)] etE Kp (fun _ => False) (fun xs => xs = []) (fun _ => False) w := fun l J Jx W hW _ _ _ h0 => by
  have hb' : W.heap[Bd]? = some (.cells #[.pointer none] 135 (0, 0)) := (hW.block Bd (Array.getElem?_eq_some_iff.1 hb).1).trans hb
  have hcb : W.cell? ⟨Bd, 0, none⟩ = some (.pointer none) := by rw [cell_of_blk hb']; rfl
  have H0 := Lib.hid h0
  clear hb hb' hW h0
  refine callsIn_of_wp Try.func157 rfl hF ?_ hro
  simp only [Try.ntmps157, List.size_toArray, List.length_cons, List.length_nil, Nat.reduceAdd, Nat.reduceSub, Array.replicate_succ, Array.replicate_zero, List.push_toArray, List.append_toArray, List.nil_append, List.cons_append]
  gi_wp2
  refine bodyPost_ret (results_none rfl _ _ _) rfl ?_
  exact ⟨⟨_, rfl⟩, H0.out⟩
end Go.Proofs.Ytgomilodeaafdaa.Ds

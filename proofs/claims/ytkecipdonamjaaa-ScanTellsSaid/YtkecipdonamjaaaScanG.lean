/- The walk of rest: scanning to the end. No condition. -/
import Derived.Test.YtkecipdonamjaaaScanF
import Derived.Test.YtkecipdonamjaaaSame6
namespace Go.Proofs.Ytkecipdonamjaaa
open Go.ChangeShapes Go.WideShapes Go.ChangeAt Go.RowKit Di
theorem scan_cur {M : DM} (h : Inv M) (ho : M.old.length ≤ 35184372088832) (hy : M.young.length ≤ 35184372088832) (c : Nat) (count : Int) : (scanK M c count).1 < 18446744073709551616 := by
  unfold scanK
  by_cases hne : M.old = []
  · rw [if_pos hne]; decide
  · rw [if_neg hne]
    have T := tabs h hne (max count 1).toNat
    obtain ⟨j', _, _, g3⟩ := TB.nxt_gen _ T.le c []
    rw [g3]
    have h1 := TB.cur_lt (scanT M (max count 1).toNat) j'
    have h2 := great_bound ho hy T.great
    have h3 : 2 ^ (scanT M (max count 1).toNat).g ≤ 2 ^ 45 := Nat.pow_le_pow_right (by decide) h2
    show TB.cur _ _ < _
    omega
set_option maxRecDepth 100000 in
set_option maxHeartbeats 4000000 in
theorem rest_any (w : World) (d : Nat) (M : DM) (c : UInt64) (count : Int) (h : DAt w d M) (hn : M.n ≤ 1099511627776) (hcl : -9223372036854775808 ≤ count) (hch : count ≤ 9223372036854775807) :
    Calls Try.prog 57 #[.pointer (some ⟨d, 0, none⟩), .int .u64 (wd c), .int .i64 count] w fun e w' => ∃ v l, e = .returned (.tuple #[v, .bool true]) ∧ RowS w.heap.size w' v l ∧ Below w.heap.size w w' ∧ RestOf M c.toNat l := by
  have HSZ := Lib.hid (Di.sizes_any w d M h)
  have hlo := h.lold
  have hly := h.lyoung
  have hinv := h.inv
  have HN := Lib.hid (fun (W : World) (h : DAt W d M) (c : UInt64) => next_any W d M c count h (by omega) hcl hch)
  have HSTEP := Lib.hid (fun (i c' : Nat) (L : List ByteArray) (hr : RS M (max count 1).toNat c.toNat i c' L) => hr.step hinv (by omega) (by omega))
  have HLT := Lib.hid (fun (i c' : Nat) (L : List ByteArray) (hr : RS M (max count 1).toNat c.toNat i c' L) => hr.lt hinv)
  have HCUR := Lib.hid (fun (c' : Nat) => scan_cur hinv (by omega) (by omega) c' count)
  have HD := Lib.hid h
  have HR0 := Lib.hid (RS.start M (max count 1).toNat c.toNat)
  obtain ⟨A, hA⟩ : ∃ n, M.old.length = n := ⟨_, rfl⟩
  obtain ⟨Y, hY⟩ : ∃ n, M.young.length = n := ⟨_, rfl⟩
  rw [hA] at HSZ hlo HLT
  rw [hY] at HSZ hly HLT
  obtain ⟨i0, hi, hz0, hz1, hz2⟩ := info_parts info_str
  have HI := Lib.hid hi
  have HZ0 := Lib.hid hz0
  have HZ1 := Lib.hid hz1
  have HZ2 := Lib.hid hz2
  clear h hA hY hi hz0 hz1 hz2 hinv
  go_enter Try.func57, Try.ntmps57
  go_wp2_with fail
  refine HSZ.out.mono ?_
  rintro e w1 ⟨rfl, m1, rfl⟩
  have HB0 : Hid (Below w.heap.size w (w.drewN m1)) := (Fr.drewN (fun _ => False) w m1).below (Nat.le_refl _) (fun _ h => h.elim)
  clear HSZ
  go_wp2_with fail
  go_loopw [1, 11, 12] (fun cv v i wr => ∃ (k : Nat) (c' : UInt64) (L : List ByteArray), i = .int .i64 k ∧ cv = .int .u64 (wd c') ∧ Hid (RS M (max count 1).toNat c.toNat k c'.toNat L) ∧ Hid (RowS w.heap.size wr v L) ∧ Hid (Below w.heap.size w wr)) (fun _ _ i _ => A + Y + 1 - (intOf i).toNat)
  case atStart => exact ⟨0, c, [], rfl, rfl, HR0, World.ownsRow_nil _ _ _ _, HB0⟩
  case round =>
    obtain ⟨k, c', L, rfl, rfl, HRS, HR, HB⟩ := hrel
    obtain ⟨v, rfl⟩ : ∃ v, v = u11 := ⟨_, rfl⟩
    clear HB0 HR0
    have hk := HLT.out _ _ _ HRS.out
    have hk1 : (k : Int) ≤ (A : Int) + (Y : Int) := by omega
    have hnx := HN.out wr (HD.out.fr (fr_bel HB.out) (fun _ _ h => h)) c'
    obtain ⟨s1, s2, s3⟩ := HSTEP.out _ _ _ HRS.out
    have hcl8 := HCUR.out c'.toNat
    obtain ⟨R, hR⟩ : ∃ R, scanK M c'.toNat count = R := ⟨_, rfl⟩
    rw [hR] at hnx s1 s2 s3 hcl8
    have HNX := Lib.hid hnx
    have HS2 := Lib.hid s2
    have HS3 := Lib.hid s3
    rw [List.length_append] at s1
    clear hnx s2 s3 hR
    have hr0 := HR.out
    obtain ⟨va, vc, rfl⟩ := owns_slice hr0
    clear hr0
    go_wp2_with fail
    refine HNX.out.mono ?_
    rintro e w2 ⟨v2, rfl, hr2, hb2⟩
    obtain ⟨R1, R2⟩ := R
    dsimp only at hr2 s1 HS2 HS3 hcl8 ⊢
    have HR2 := Lib.hid (owns_fr HR.out (fr_bel hb2) (fun _ _ h => h))
    have HB2 := Lib.hid (HB.out.trans (hb2.mono HB.out.size))
    have HRD := Lib.hid (RdC.of_owns hr2)
    obtain ⟨v2a, v2c, rfl⟩ := owns_slice hr2
    clear hr2 hb2 HNX
    have hs1 : L.length + R2.length ≤ 3298534883328 := by omega
    by_cases hz : R1 = 0
    · have HQ := Lib.hid (HS2.out hz)
      subst hz
      go_wp2_with (at_builtin; refine wpl_append rfl (.tmp 35) (.tmp 36) 47 rfl w.heap.size 9 i0 (.string ⟨#[]⟩) 1 16 Try.underlying47 HI.out HZ0.out HZ1.out HZ2.out rfl (by decide) _ L.length _ rfl HR2.out _ R2.length _ rfl HRD.out (one_strs _) (by unfold maxLen; omega) (by omega) HB2.out.size ?_; intro v' w8 hown hgrow; have HO8 := Lib.hid hown; have HG8 := Lib.hid hgrow; clear hown hgrow)
      go_ret2
      refine ⟨_, rfl, L ++ R2, rowS_app HO8.out, HB2.out.grown HG8.out HB2.out.size (fun g hg => (HR2.out.lt g hg).1), HQ.out⟩
    · have HQ := HS3.out hz
      have hu := u64_nat R1 hcl8
      have hq1 : ((R1 : Int) == 0) = false := beq_eq_false_iff_ne.2 (by omega)
      rw [← hu] at HQ
      have HQ2 := Lib.hid HQ
      have HW := Lib.hid (wd_nat R1 hcl8)
      clear hz HQ hu
      go_wp2_with (at_builtin; refine wpl_append rfl (.tmp 35) (.tmp 36) 47 rfl w.heap.size 9 i0 (.string ⟨#[]⟩) 1 16 Try.underlying47 HI.out HZ0.out HZ1.out HZ2.out rfl (by decide) _ L.length _ rfl HR2.out _ R2.length _ rfl HRD.out (one_strs _) (by unfold maxLen; omega) (by omega) HB2.out.size ?_; intro v' w8 hown hgrow; have HO8 := Lib.hid hown; have HG8 := Lib.hid hgrow; clear hown hgrow)
      go_roundw
      case rel => exact ⟨k + 1, _, _, by go_num, by rw [HW.out], HQ2, rowS_app HO8.out, HB2.out.grown HG8.out HB2.out.size (fun g hg => (HR2.out.lt g hg).1)⟩
      case measure => simp [intOf]; omega
end Go.Proofs.Ytkecipdonamjaaa

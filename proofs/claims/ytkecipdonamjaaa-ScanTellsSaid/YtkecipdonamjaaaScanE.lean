/- The walks of keys, stays and rest. No condition. -/
import Derived.Test.YtkecipdonamjaaaScanD
import Derived.Test.YtkecipdonamjaaaScanS
namespace Go.Proofs.Ytkecipdonamjaaa
open Go.ChangeShapes Go.WideShapes Go.ChangeAt Go.RowKit Di
theorem rowS_mono {B B' : Nat} {w : World} {v : Value} {S : List ByteArray} (h : RowS B w v S) (hB : B' ≤ B) : RowS B' w v S := by
  rcases h with ⟨h1, h2 | ⟨g, cap, cur, rfl, hb, hg, hnc, hcm, hcs, htake⟩⟩
  · exact ⟨h1, .inl h2⟩
  · exact ⟨h1, .inr ⟨g, cap, cur, rfl, Nat.le_trans hB hb, hg, hnc, hcm, hcs, htake⟩⟩
theorem bkts_mono (M : DM) (t : Nat) {k n : Nat} (h : k ≤ n) : (bkts M t k).flatten.length ≤ (bkts M t n).flatten.length := by
  induction n with
  | zero => have : k = 0 := by omega
            subst this; exact Nat.le_refl _
  | succ n ih =>
    by_cases hk : k = n + 1
    · subst hk; exact Nat.le_refl _
    · rw [bkts_succ, List.flatten_append, List.length_append]
      exact Nat.le_trans (ih (by omega)) (Nat.le_add_right _ _)
theorem bkts_keys (M : DM) : (bkts M 0 M.old.length).flatten ++ (bkts M 1 M.young.length).flatten = (entries M).map E.key := by
  have h0 := bkts_flat M 0 (.inl rfl)
  have h1 := bkts_flat M 1 (.inr rfl)
  have e0 : tabOf M ((0 : Nat) : Int) = M.old := rfl
  have e1 : tabOf M ((1 : Nat) : Int) = M.young := rfl
  rw [e0] at h0
  rw [e1] at h1
  rw [h0, h1, ← List.map_append]
  rfl
set_option maxRecDepth 100000 in
set_option maxHeartbeats 4000000 in
theorem keys_any (w : World) (d : Nat) (M : DM) (h : DAt w d M) (hn : M.n ≤ 1099511627776) (ho : M.old.length ≤ 4194304) (hy : M.young.length ≤ 4194304) :
    Calls Try.prog 55 #[.pointer (some ⟨d, 0, none⟩)] w fun e w' => ∃ v, e = .returned v ∧ RowS w.heap.size w' v ((entries M).map E.key) ∧ Below w.heap.size w w' := by
  have HTB := Lib.hid (tables_any w d M h (by omega) ho hy)
  have hk := bkts_keys M
  have hlen : ((bkts M 0 M.old.length).flatten ++ (bkts M 1 M.young.length).flatten).length ≤ 1099511627776 := by rw [hk, List.length_map, ← h.inv.count]; exact hn
  rw [← hk]
  obtain ⟨A, hA⟩ : ∃ n, M.old.length = n := ⟨_, rfl⟩
  obtain ⟨Y, hY⟩ : ∃ n, M.young.length = n := ⟨_, rfl⟩
  rw [hA, hY] at HTB hlen ⊢
  rw [hA] at ho
  rw [hY] at hy
  rw [List.length_append] at hlen
  obtain ⟨i0, hi, hz0, hz1, hz2⟩ := info_parts info_str
  have HI := Lib.hid hi
  have HZ0 := Lib.hid hz0
  have HZ1 := Lib.hid hz1
  have HZ2 := Lib.hid hz2
  have HLEN := Lib.hid hlen
  clear h hk hA hY hi hz0 hz1 hz2 hn hlen
  go_enter Try.func55, Try.ntmps55
  go_wp2_with fail
  refine HTB.out.mono ?_
  rintro e w1 ⟨v1, v2, rfl, B, hts⟩
  clear HTB
  obtain ⟨x1, hx1⟩ := hts.one
  obtain ⟨x2, hx2⟩ := hts.two
  have hx2 := hx2.mono hts.lo
  obtain ⟨a1, c1, rfl⟩ := owns_slice hx1.row
  obtain ⟨a2, c2, rfl⟩ := owns_slice hx2.row
  rw [bkts_len] at hx1 hx2 ⊢
  rw [bkts_len]
  have HX1 := Lib.hid hx1
  have HX2 := Lib.hid hx2
  have HB1 := Lib.hid hts.bel
  clear hx1 hx2 hts
  go_wp2_with fail
  go_loopw [5, 6] (fun v i wr => ∃ k : Nat, i = .int .i64 k ∧ k ≤ A ∧ Hid (RowS w1.heap.size wr v (bkts M 0 k).flatten) ∧ Hid (Below w1.heap.size w1 wr)) (fun _ i _ => A - (intOf i).toNat)
  case atStart => exact ⟨0, rfl, by omega, World.ownsRow_nil _ _ _ _, Below.refl _ _⟩
  case round =>
    obtain ⟨k, rfl, hk, HR, HB⟩ := hrel
    obtain ⟨v, rfl⟩ : ∃ v, v = u5 := ⟨_, rfl⟩
    by_cases hlt : k < A
    · have hr0 := HR.out
      obtain ⟨va, vc, rfl⟩ := owns_slice hr0
      obtain ⟨g, u, rfl, hcu, hru⟩ := HX1.out.at k (by rw [bkts_len]; exact hlt)
      have hblt : g < w1.heap.size := World.block_lt_of_cell? w1 _ hcu
      have hcu2 : wr.cell? ⟨g, k, none⟩ = some u := (HB.out.cell hblt).trans hcu
      have e1 : (bkts M 0 A)[k]'(by rw [bkts_len]; exact hlt) = bucketK M 0 (k : Int) := by simp [bkts]
      rw [e1] at hru
      have hl1 := bkts_mono M 0 (show k + 1 ≤ A from hlt)
      rw [bkts_succ, List.flatten_append, List.flatten_singleton, List.length_append] at hl1
      have hl1 : (bkts M 0 k).flatten.length + (bucketK M 0 (k : Int)).length ≤ (bkts M 0 A).flatten.length := hl1
      have hl2 : (bkts M 0 k).flatten.length + (bucketK M 0 (k : Int)).length ≤ 1099511627776 := by have := HLEN.out; omega
      have HSN : Hid ((bkts M 0 (k + 1)).flatten = (bkts M 0 k).flatten ++ bucketK M 0 (k : Int)) := by show _ = _; rw [bkts_succ, List.flatten_append, List.flatten_singleton]; rfl
      obtain ⟨S, hS⟩ : ∃ S, (bkts M 0 k).flatten = S := ⟨_, rfl⟩
      obtain ⟨K, hK⟩ : ∃ K, bucketK M 0 (k : Int) = K := ⟨_, rfl⟩
      rw [hS] at HR HSN hl2
      rw [hS]
      rw [hK] at hru HSN hl2
      have HRD : Hid (RdC wr 1 u K.length (K.map .string)) := (RdC.of_owns hru).below (HB.out.mono (Nat.le_refl _))
      obtain ⟨ua, uc, rfl⟩ := owns_slice hru
      clear hS hK hcu hr0 e1 hl1 hru
      go_wp2_with (at_builtin; refine wpl_append rfl (.tmp 19) (.tmp 23) 47 rfl w1.heap.size 9 i0 (.string ⟨#[]⟩) 1 16 Try.underlying47 HI.out HZ0.out HZ1.out HZ2.out rfl (by decide) _ S.length _ rfl HR.out _ K.length _ rfl HRD.out (one_strs _) (by unfold maxLen; omega) (by omega) HB.out.size ?_; intro v' w8 hown hgrow; have HO8 := Lib.hid hown; have HG8 := Lib.hid hgrow; clear hown hgrow)
      go_roundw
      case rel =>
        refine ⟨k + 1, by go_num, by omega, ?_, HB.out.grown HG8.out HB.out.size (fun g hg => (HR.out.lt g hg).1)⟩
        rw [HSN.out]; exact rowS_app HO8.out
      case measure => simp [intOf]; omega
    · obtain rfl : k = A := by omega
      obtain ⟨L1, hL1⟩ : ∃ L, (bkts M 0 k).flatten = L := ⟨_, rfl⟩
      rw [hL1] at HR HLEN
      have HL1 := Lib.hid hL1
      clear hL1
      go_wp2_with fail
      go_loopw [5, 7] (fun v i wr => ∃ j : Nat, i = .int .i64 j ∧ j ≤ Y ∧ Hid (RowS w1.heap.size wr v (L1 ++ (bkts M 1 j).flatten)) ∧ Hid (Below w1.heap.size w1 wr)) (fun _ i _ => Y - (intOf i).toNat)
      case atStart => exact ⟨0, rfl, by omega, by rw [show (bkts M 1 0).flatten = [] from rfl, List.append_nil]; exact HR, HB⟩
      case round =>
        obtain ⟨j, rfl, hj, HR2, HB2⟩ := hrel
        obtain ⟨v, rfl⟩ : ∃ v, v = u5 := ⟨_, rfl⟩
        clear HR HB
        by_cases hlt : j < Y
        · have hr0 := HR2.out
          obtain ⟨va, vc, rfl⟩ := owns_slice hr0
          obtain ⟨g, u, rfl, hcu, hru⟩ := HX2.out.at j (by rw [bkts_len]; exact hlt)
          have hblt : g < w1.heap.size := World.block_lt_of_cell? w1 _ hcu
          have hcu2 : wr.cell? ⟨g, j, none⟩ = some u := (HB2.out.cell hblt).trans hcu
          have e1 : (bkts M 1 Y)[j]'(by rw [bkts_len]; exact hlt) = bucketK M 1 (j : Int) := by simp [bkts]
          rw [e1] at hru
          have hl1 := bkts_mono M 1 (show j + 1 ≤ Y from hlt)
          rw [bkts_succ, List.flatten_append, List.flatten_singleton, List.length_append] at hl1
          have hl1 : (bkts M 1 j).flatten.length + (bucketK M 1 (j : Int)).length ≤ (bkts M 1 Y).flatten.length := hl1
          have hl2 : (L1 ++ (bkts M 1 j).flatten).length + (bucketK M 1 (j : Int)).length ≤ 1099511627776 := by have := HLEN.out; rw [List.length_append]; omega
          have HSN : Hid (L1 ++ (bkts M 1 (j + 1)).flatten = (L1 ++ (bkts M 1 j).flatten) ++ bucketK M 1 (j : Int)) := by show _ = _; rw [bkts_succ, List.flatten_append, List.flatten_singleton, List.append_assoc]; rfl
          obtain ⟨S, hS⟩ : ∃ S, L1 ++ (bkts M 1 j).flatten = S := ⟨_, rfl⟩
          obtain ⟨K, hK⟩ : ∃ K, bucketK M 1 (j : Int) = K := ⟨_, rfl⟩
          rw [hS] at HR2 HSN hl2
          rw [hS]
          rw [hK] at hru HSN hl2
          have HRD : Hid (RdC wr 1 u K.length (K.map .string)) := (RdC.of_owns hru).below (HB2.out.mono (Nat.le_refl _))
          obtain ⟨ua, uc, rfl⟩ := owns_slice hru
          clear hS hK hcu hr0 e1 hl1 hru
          go_wp2_with (at_builtin; refine wpl_append rfl (.tmp 31) (.tmp 35) 47 rfl w1.heap.size 9 i0 (.string ⟨#[]⟩) 1 16 Try.underlying47 HI.out HZ0.out HZ1.out HZ2.out rfl (by decide) _ S.length _ rfl HR2.out _ K.length _ rfl HRD.out (one_strs _) (by unfold maxLen; omega) (by omega) HB2.out.size ?_; intro v' w8 hown hgrow; have HO8 := Lib.hid hown; have HG8 := Lib.hid hgrow; clear hown hgrow)
          go_roundw
          case rel =>
            refine ⟨j + 1, by go_num, by omega, ?_, HB2.out.grown HG8.out HB2.out.size (fun g hg => (HR2.out.lt g hg).1)⟩
            rw [HSN.out]; exact rowS_app HO8.out
          case measure => simp [intOf]; omega
        · obtain rfl : j = Y := by omega
          go_wp2_with fail
          go_ret
          exact ⟨_, rfl, by rw [HL1.out]; exact rowS_mono HR2.out HB1.out.size, HB1.out.trans (HB2.out.mono HB1.out.size)⟩
end Go.Proofs.Ytkecipdonamjaaa

/- The document's dict asked. No condition. -/
import Derived.Test.YtgomilodeaafdaaCb
import Derived.Test.YtgomilodeaafdaaBb
import Derived.Test.YtgomilodeaafdaaEa
import Derived.Laws.MakeOwn
import Derived.ChangeSame
import Derived.Test.YtgomilodeaafdaaBa
import Derived.Deep.Cut
import Derived.Deep.CutBlock
import Derived.Deep.QuietTactic
import Derived.BigQuiet
namespace Go.Proofs.Ytgomilodeaafdaa
open Go.RowKit
section
variable (w : World) (B p : Nat) (F : Nat → Prop) (N : NM) (K : List ByteArray) (V : List Int) (X : RB)
theorem rdLen_any (h : RefC w B p F N K V X) : Calls Try.prog 79 #[.pointer (some ⟨p, 0, none⟩)] w fun e w' => e = .returned (.int .i64 K.length) ∧ w = w' := by
  have c4 := h.cells.2.2.2.2.1
  obtain ⟨a, c, e⟩ := ow_sliceN h.ks
  rw [e] at c4
  clear h e
  go_enter Try.func79, Try.ntmps79
  go_wp2
  go_ret
  exact ⟨rfl, rfl⟩
theorem rdSizes_any (h : RefC w B p F N K V X) : Calls Try.prog 87 #[.pointer (some ⟨p, 0, none⟩)] w fun e w' => e = .returned (.tuple #[.int .i64 N.old.length, .int .i64 N.young.length, .int .i64 N.at_]) ∧ ∃ m, w' = w.drewN m := by
  have c1 := h.cells.2.1
  have c2 := h.cells.2.2.1
  have c3 := h.cells.2.2.2.1
  obtain ⟨a1, e1⟩ := rowV_eq X.t1 X.r1
  obtain ⟨a2, e2⟩ := rowV_eq X.t2 X.r2
  rw [e1, h.row1.len] at c1
  rw [e2, h.row2.len] at c2
  clear h e1 e2
  go_enter Try.func87, Try.ntmps87
  go_wp2
  go_quiet (fail)
  go_wp2
  go_ret3
  exact ⟨rfl, nq, rfl⟩
/-- a text's list, lying somewhere -/
def HasL (w : World) (l : List ByteArray) (e : Ending) (w' : World) : Prop := ∃ v, e = .returned v ∧ RdC w' 1 v l.length (l.map .string) ∧ ∃ m, w' = w.drewN m
theorem bucketK_at0 {M : DM} {k : Nat} (h : k < M.old.length) : bucketK M 0 (k : Int) = nm M.old[k] := by
  have := bucket_at (M := M) (t := 0) (.inl rfl) k
  rw [show (tabOf M ((0 : Nat) : Int)) = M.old from rfl, List.getElem?_eq_getElem h] at this
  exact this
theorem bucketK_at1 {M : DM} {k : Nat} (h : k < M.young.length) : bucketK M 1 (k : Int) = nm M.young[k] := by
  have := bucket_at (M := M) (t := 1) (.inr rfl) k
  rw [show (tabOf M ((1 : Nat) : Int)) = M.young from rfl, List.getElem?_eq_getElem h] at this
  exact this
theorem bucketK_no {M : DM} {t i : Int} (h0 : ¬ (t = 0 ∧ 0 ≤ i ∧ i < M.old.length)) (h1 : ¬ (t = 1 ∧ 0 ≤ i ∧ i < M.young.length)) : bucketK M t i = [] := by
  unfold bucketK
  split
  · rename_i h
    obtain ⟨ht, hi⟩ := h
    unfold tabOf
    split
    · rename_i e
      rw [List.getElem?_eq_none (by have : ¬ i < M.young.length := fun hl => h1 ⟨e, hi, hl⟩; omega)]
      rfl
    · rename_i e
      rw [List.getElem?_eq_none (by have : ¬ i < M.old.length := fun hl => h0 ⟨by omega, hi, hl⟩; omega)]
      rfl
  · rfl
set_option maxHeartbeats 1000000 in
theorem rdBucket_any (M : DM) (h : RefC w B p F (nmM M) K V X) (t i : Int) : Calls Try.prog 148 #[.pointer (some ⟨p, 0, none⟩), .int .i64 t, .int .i64 i] w (HasL w (bucketK M t i)) := by
  have HT := Lib.hid (rdTables_any w B p F (nmM M) K V X h)
  have hl1 : X.r1.length = M.old.length := by rw [h.row1.len]; exact List.length_map _
  have hl2 : X.r2.length = M.young.length := by rw [h.row2.len]; exact List.length_map _
  by_cases c0 : t = 0 ∧ 0 ≤ i ∧ i < M.old.length
  · obtain ⟨rfl, hi0, hi1⟩ := c0
    obtain ⟨k, rfl⟩ := Int.eq_ofNat_of_zero_le hi0
    have hk : k < M.old.length := by omega
    have e0 := bucketK_at0 hk
    obtain ⟨v, q1, q2, q3, q4, q5⟩ := h.row1.at k (nm M.old[k]) (by show (M.old.map nm)[k]? = _; rw [List.getElem?_map, List.getElem?_eq_getElem hk]; rfl)
    have hv := rowV_of (t := X.t1) q2
    obtain ⟨a2, hv2⟩ := rowV_eq X.t2 X.r2
    have hrd := q5.1
    rw [hv, hv2, hl1, hl2] at HT
    rw [e0]
    obtain ⟨L, hL⟩ : ∃ L, nm M.old[k] = L := ⟨_, rfl⟩
    rw [hL] at hrd ⊢
    obtain ⟨a, c, rfl⟩ := rd_sliceN hrd
    have HRD := Lib.hid hrd
    have b0 : decide ((0 : Int) ≤ (k : Int)) = true := by rw [decide_eq_true_eq]; omega
    have b1 : decide ((k : Int) < (M.old.length : Int)) = true := by rw [decide_eq_true_eq]; omega
    have b2 : (0 : Int) ≤ (k : Int) := by omega
    have b3 : (k : Int) < (M.old.length : Int) := by omega
    clear h q1 q2 q4 q5 hv hv2 hl1 hl2 e0 hL hrd hi0 hi1
    go_enter Try.func148, Try.ntmps148
    go_wp2_with fail
    refine HT.out.mono ?_
    rintro e w' ⟨rfl, m, rfl⟩
    go_wp2_with fail
    go_ret
    exact ⟨_, rfl, HRD.out.fr (Fr.drewN (fun _ => False) w m) (fun _ _ h => h), m, rfl⟩
  · by_cases c1 : t = 1 ∧ 0 ≤ i ∧ i < M.young.length
    · obtain ⟨rfl, hi0, hi1⟩ := c1
      obtain ⟨k, rfl⟩ := Int.eq_ofNat_of_zero_le hi0
      have hk : k < M.young.length := by omega
      have e0 := bucketK_at1 hk
      obtain ⟨v, q1, q2, q3, q4, q5⟩ := h.row2.at k (nm M.young[k]) (by show (M.young.map nm)[k]? = _; rw [List.getElem?_map, List.getElem?_eq_getElem hk]; rfl)
      have hv := rowV_of (t := X.t2) q2
      obtain ⟨a2, hv2⟩ := rowV_eq X.t1 X.r1
      have hrd := q5.1
      rw [hv, hv2, hl1, hl2] at HT
      rw [e0]
      obtain ⟨L, hL⟩ : ∃ L, nm M.young[k] = L := ⟨_, rfl⟩
      rw [hL] at hrd ⊢
      obtain ⟨a, c, rfl⟩ := rd_sliceN hrd
      have HRD := Lib.hid hrd
      have b0 : decide ((0 : Int) ≤ (k : Int)) = true := by rw [decide_eq_true_eq]; omega
      have b1 : decide ((k : Int) < (M.young.length : Int)) = true := by rw [decide_eq_true_eq]; omega
      have b2 : (0 : Int) ≤ (k : Int) := by omega
      have b3 : (k : Int) < (M.young.length : Int) := by omega
      clear h q1 q2 q4 q5 hv hv2 hl1 hl2 e0 hL hrd hi0 hi1 c0
      go_enter Try.func148, Try.ntmps148
      go_wp2_with fail
      refine HT.out.mono ?_
      rintro e w' ⟨rfl, m, rfl⟩
      go_wp2_with fail
      go_ret
      exact ⟨_, rfl, HRD.out.fr (Fr.drewN (fun _ => False) w m) (fun _ _ h => h), m, rfl⟩
    · rw [bucketK_no c0 c1]
      obtain ⟨a1, hv1⟩ := rowV_eq X.t1 X.r1
      obtain ⟨a2, hv2⟩ := rowV_eq X.t2 X.r2
      rw [hv1, hv2, hl1, hl2] at HT
      obtain ⟨n1, hn1⟩ : ∃ x, (M.old.length : Int) = x := ⟨_, rfl⟩
      obtain ⟨n2, hn2⟩ : ∃ x, (M.young.length : Int) = x := ⟨_, rfl⟩
      have g0 : (((t == 0) && decide (0 ≤ i)) && decide (i < n1)) = false := by
        rw [← hn1]
        cases hq : ((t == 0) && decide (0 ≤ i)) && decide (i < (M.old.length : Int)) with
        | false => rfl
        | true =>
          simp only [Bool.and_eq_true, beq_iff_eq, decide_eq_true_eq] at hq
          exact absurd ⟨hq.1.1, hq.1.2, hq.2⟩ c0
      have g1 : (((t == 1) && decide (0 ≤ i)) && decide (i < n2)) = false := by
        rw [← hn2]
        cases hq : ((t == 1) && decide (0 ≤ i)) && decide (i < (M.young.length : Int)) with
        | false => rfl
        | true =>
          simp only [Bool.and_eq_true, beq_iff_eq, decide_eq_true_eq] at hq
          exact absurd ⟨hq.1.1, hq.1.2, hq.2⟩ c1
      have G0 := Lib.hid g0
      have G1 := Lib.hid g1
      have HN1 := Lib.hid hn1
      have HN2 := Lib.hid hn2
      clear h hv1 hv2 hl1 hl2 c0 c1 g0 g1 hn1 hn2
      go_enter Try.func148, Try.ntmps148
      go_wp2_with fail
      refine HT.out.mono ?_
      rintro e w' ⟨rfl, m, rfl⟩
      obtain ⟨W, hW⟩ : ∃ x, w.drewN m = x := ⟨_, rfl⟩
      have HW := Lib.hid hW
      rw [hW]
      clear hW
      go_upto_region 2 with (fail)
      go_cut [25] from 14 to 25 (fun u wc => wc = W ∧ u = .bool false)
      case first =>
        by_cases ht : t = 0
        · subst ht
          by_cases hi : 0 ≤ i
          · have b0 : decide (0 ≤ i) = true := decide_eq_true hi
            have b1 : decide (i < (M.old.length : Int)) = false := by have := G0.out; rw [b0, ← HN1.out] at this; simpa using this
            go_wp2_with fail
            go_meet
            case rel => exact ⟨rfl, rfl⟩
          · have b0 : decide (0 ≤ i) = false := decide_eq_false hi
            go_wp2_with fail
            go_meet
            case rel => exact ⟨rfl, rfl⟩
        · have b0 : (t == 0) = false := beq_eq_false_iff_ne.2 ht
          go_wp2_with fail
          go_meet
          case rel => exact ⟨rfl, rfl⟩
      case rest =>
      obtain ⟨rfl, rfl⟩ := hcut
      obtain ⟨W, rfl⟩ : ∃ x, x = wc := ⟨_, rfl⟩
      go_upto_region 4 with (fail)
      go_cut [41] from 30 to 41 (fun u wc => wc = W ∧ u = .bool false)
      case first =>
        by_cases ht : t = 1
        · subst ht
          by_cases hi : 0 ≤ i
          · have b0 : decide (0 ≤ i) = true := decide_eq_true hi
            have b1 : decide (i < (M.young.length : Int)) = false := by have := G1.out; rw [b0, ← HN2.out] at this; simpa using this
            go_wp2_with fail
            go_meet
            case rel => exact ⟨rfl, rfl⟩
          · have b0 : decide (0 ≤ i) = false := decide_eq_false hi
            go_wp2_with fail
            go_meet
            case rel => exact ⟨rfl, rfl⟩
        · have b0 : (t == 1) = false := beq_eq_false_iff_ne.2 ht
          go_wp2_with fail
          go_meet
          case rel => exact ⟨rfl, rfl⟩
      case rest =>
      obtain ⟨rfl, rfl⟩ := hcut
      obtain ⟨W, rfl⟩ : ∃ x, x = wc := ⟨_, rfl⟩
      go_wp2_with fail
      go_ret
      exact ⟨_, rfl, RdC.nil _ _, m, HW.out.symm⟩
/-- Clear -/
theorem rdClear_any (L : Pl) (h : RefD w B p F N L X) (hB : B ≤ w.heap.size) : Calls Try.prog 76 #[.pointer (some ⟨p, 0, none⟩)] w fun e w' => e = .returned (.tuple #[]) ∧ RdTo w B p F ⟨N.seed, [], [], 0⟩ [] w' := by
  have hb := h.c.blk
  have HC := Lib.hid h.c
  obtain ⟨c0, c1, c2, c3, c4, c5⟩ := h.c.cells
  have z1 := h.c.free 1
  have hz : ∀ (W : World) (i j : Nat) (v : Value), W.frozen? ⟨p, j, none⟩ = false → (W.setCell ⟨p, i, none⟩ v).frozen? ⟨p, j, none⟩ = false := fun W i j v hh => (World.frozen?_setCell W _ _ _).trans hh
  have z2 := h.c.free 2
  have z3 := h.c.free 3
  have z4 := h.c.free 4
  have z5 := h.c.free 5
  obtain ⟨a1, e1⟩ := rowV_eq X.t1 X.r1
  obtain ⟨a2, e2⟩ := rowV_eq X.t2 X.r2
  obtain ⟨w1, hw1⟩ : ∃ x, w.setCell ⟨p, 1, none⟩ (.slice none 0 0) = x := ⟨_, rfl⟩
  obtain ⟨w2, hw2⟩ : ∃ x, w1.setCell ⟨p, 2, none⟩ (.slice none 0 0) = x := ⟨_, rfl⟩
  obtain ⟨w3, hw3⟩ : ∃ x, w2.setCell ⟨p, 3, none⟩ (.int .i64 0) = x := ⟨_, rfl⟩
  obtain ⟨w4, hw4⟩ : ∃ x, w3.setCell ⟨p, 4, none⟩ (.slice none 0 0) = x := ⟨_, rfl⟩
  obtain ⟨w5, hw5⟩ : ∃ x, w4.setCell ⟨p, 5, none⟩ (.slice none 0 0) = x := ⟨_, rfl⟩
  have b1 : w1.heap[p]? = some (.cells #[.int .u64 (wd N.seed), .slice none 0 0, rowV X.t2 X.r2, .int .i64 N.at_, X.kv, X.vv] 119 (0, 0)) := by rw [← hw1]; exact heap_setCell_same w p 1 _ _ (.slice none 0 0) hb
  have b2 : w2.heap[p]? = some (.cells #[.int .u64 (wd N.seed), .slice none 0 0, .slice none 0 0, .int .i64 N.at_, X.kv, X.vv] 119 (0, 0)) := by rw [← hw2]; exact heap_setCell_same w1 p 2 _ _ (.slice none 0 0) b1
  have b3 : w3.heap[p]? = some (.cells #[.int .u64 (wd N.seed), .slice none 0 0, .slice none 0 0, .int .i64 0, X.kv, X.vv] 119 (0, 0)) := by rw [← hw3]; exact heap_setCell_same w2 p 3 _ _ (.int .i64 0) b2
  have b4 : w4.heap[p]? = some (.cells #[.int .u64 (wd N.seed), .slice none 0 0, .slice none 0 0, .int .i64 0, .slice none 0 0, X.vv] 119 (0, 0)) := by rw [← hw4]; exact heap_setCell_same w3 p 4 _ _ (.slice none 0 0) b3
  have b5 : w5.heap[p]? = some (.cells #[.int .u64 (wd N.seed), .slice none 0 0, .slice none 0 0, .int .i64 0, .slice none 0 0, .slice none 0 0] 119 (0, 0)) := by rw [← hw5]; exact heap_setCell_same w4 p 5 _ _ (.slice none 0 0) b4
  have hf : Fr (fun i => i = p) w w5 := by
    rw [← hw5, ← hw4, ← hw3, ← hw2, ← hw1]
    exact (((((Fr.refl (fun i => i = p) w).thenSet _ _ (fun _ => rfl)).thenSet _ _ (fun _ => rfl)).thenSet _ _ (fun _ => rfl)).thenSet _ _ (fun _ => rfl)).thenSet _ _ (fun _ => rfl)
  have d2 := cell_of_blk b1 2
  have d3 := cell_of_blk b2 3
  have d4 := cell_of_blk b3 4
  have d5 := cell_of_blk b4 5
  have y2 := free_of_blk b1 2
  have y3 := free_of_blk b2 3
  have y4 := free_of_blk b3 4
  have y5 := free_of_blk b4 5
  have B5 := Lib.hid b5
  have HF := Lib.hid hf
  obtain ⟨u2, hu2⟩ : ∃ x, rowV X.t2 X.r2 = x := ⟨_, rfl⟩
  have d2' : w1.cell? ⟨p, 2, none⟩ = some u2 := by rw [d2, ← hu2]; rfl
  have d3' : w2.cell? ⟨p, 3, none⟩ = some (.int .i64 N.at_) := d3
  have d4' : w3.cell? ⟨p, 4, none⟩ = some X.kv := d4
  have d5' : w4.cell? ⟨p, 5, none⟩ = some X.vv := d5
  clear h hb c0 c2 c3 c4 c5 z2 z3 z4 z5 hz e1 e2 b1 b2 b3 b4 b5 hf d2 d3 d4 d5 hu2
  go_enter Try.func76, Try.ntmps76
  go_wp2_with fail
  go_end0
  have hb5 : w5.heap[p]? = some (rdO N.seed 0 ⟨0, [], 0, [], .slice none 0 0, .slice none 0 0⟩) := B5.out
  have hlt := HC.out.lt p HC.out.fp
  refine ⟨rfl, ⟨0, [], 0, [], .slice none 0 0, .slice none 0 0⟩, ⟨⟨hb5, .inl HC.out.fp, RowsV.nil, RowsV.nil, fun h => absurd rfl h, World.ownsRow_nil _ _ _ _, World.ownsRow_nil _ _ _ _, fun g hg => (by cases hg), fun g hg => (by cases hg), fun v hv => (by cases hv), fun v hv => (by cases hv), fun k hk => ?_⟩, fit_nil N.seed, fun x hx => by cases hx⟩, HF.out.mono (fun i hi _ => by rw [hi]; exact HC.out.fp)⟩
  rcases hk with hk | hk
  · exact ⟨(HC.out.lt k hk).1, Nat.lt_of_lt_of_le (HC.out.lt k hk).2 HF.out.size⟩
  · exact ⟨Nat.le_trans hB hk.1, hk.2⟩
end
end Go.Proofs.Ytgomilodeaafdaa
namespace Go.Proofs.Ytgomilodeaafdaa
open Go.RowKit
/-- the open buckets as they lie -/
structure OpnV (w : World) (vals : List Value) (M : DM) : Prop where
  len : vals.length = (opn M).length
  one : ∀ u ∈ vals, u.oneCell' = true
  ch : ∀ (i : Nat) (c : List E), (opn M)[i]? = some c → ∃ v, vals[i]? = some v ∧ RdC w 1 v (nm c).length ((nm c).map .string)
theorem OpnV.quiet {w w' : World} {vals : List Value} {M : DM} (h : OpnV w vals M) (hf : Fr (fun _ => False) w w') : OpnV w' vals M :=
  ⟨h.len, h.one, fun i c hc => by obtain ⟨v, h1, h2⟩ := h.ch i c hc; exact ⟨v, h1, h2.fr hf (fun _ _ h => h)⟩⟩
section
variable {w : World} {F : Nat → Prop} {t : Nat} {r : List Value} {cs : List (List ByteArray)}
theorem RowsV.one (h : RowsV w F t r cs) : ∀ u ∈ r, u.oneCell' = true := fun u hu => by
  obtain ⟨i, hi, rfl⟩ := List.getElem_of_mem hu
  have hc : i < cs.length := by rw [← h.len]; exact hi
  obtain ⟨v, h1, h2⟩ := h.ch i cs[i] (List.getElem?_eq_getElem hc)
  rw [List.getElem?_eq_getElem hi] at h1
  cases h1
  obtain ⟨a, c, e⟩ := h2.slice
  rw [e]; rfl
theorem RowsV.slices (h : RowsV w F t r cs) : ∀ u ∈ r, ∃ a n c, u = .slice a n c := fun u hu => by
  obtain ⟨i, hi, rfl⟩ := List.getElem_of_mem hu
  have hc : i < cs.length := by rw [← h.len]; exact hi
  obtain ⟨v, h1, h2⟩ := h.ch i cs[i] (List.getElem?_eq_getElem hc)
  rw [List.getElem?_eq_getElem hi] at h1
  cases h1
  obtain ⟨a, c, e⟩ := h2.slice
  exact ⟨_, _, _, e⟩
theorem RowsV.rd (h : RowsV w F t r cs) (hl : r.length ≤ maxLen) : RdC w 1 (rowV t r) r.length r := by
  by_cases hr : r = []
  · subst hr; exact RdC.nil _ _
  · rw [rowV_of hr]
    refine ⟨by rw [Nat.mul_one], _, _, rfl, Nat.le_refl _, hl, fun e => (by cases e), fun ad had j u hu => ?_⟩
    cases had
    rw [Addr.add_lit, Nat.zero_add, cell_of_blk (h.blk hr).1]
    simpa using hu
end
section
variable {w : World} {B p : Nat} {F : Nat → Prop} {M : DM} {K : List ByteArray} {V : List Int} {X : RB}
theorem RefC.opens (h : RefC w B p F (nmM M) K V X) : OpnV w (X.r1.drop M.at_ ++ X.r2) M := by
  have hl1 : X.r1.length = M.old.length := by rw [h.row1.len]; exact List.length_map _
  have hl2 : X.r2.length = M.young.length := by rw [h.row2.len]; exact List.length_map _
  refine ⟨?_, fun u hu => ?_, fun i c hc => ?_⟩
  · unfold opn
    rw [List.length_append, List.length_append, List.length_drop, List.length_drop, hl1, hl2]
  · rcases List.mem_append.1 hu with hu | hu
    · exact h.row1.one u (List.mem_of_mem_drop hu)
    · exact h.row2.one u hu
  · unfold opn at hc
    rw [List.getElem?_append] at hc
    split at hc
    · rename_i hi
      rw [List.getElem?_drop] at hc
      obtain ⟨v, h1, h2⟩ := h.row1.ch (M.at_ + i) (nm c) (by show (M.old.map nm)[M.at_ + i]? = _; rw [List.getElem?_map, hc]; rfl)
      rw [List.length_drop] at hi
      refine ⟨v, ?_, h2.1⟩
      rw [List.getElem?_append_left (by rw [List.length_drop, hl1]; exact hi), List.getElem?_drop]
      exact h1
    · rename_i hi
      rw [List.length_drop] at hi
      rw [List.length_drop] at hc
      obtain ⟨v, h1, h2⟩ := h.row2.ch (i - (M.old.length - M.at_)) (nm c) (by show (M.young.map nm)[i - (M.old.length - M.at_)]? = _; rw [List.getElem?_map, hc]; rfl)
      refine ⟨v, ?_, h2.1⟩
      rw [List.getElem?_append_right (by rw [List.length_drop, hl1]; omega), List.length_drop, hl1]
      exact h1
end
section
variable (w : World) (B p : Nat) (F : Nat → Prop) (M : DM) (K : List ByteArray) (V : List Int) (X : RB)
set_option maxRecDepth 100000 in
set_option maxHeartbeats 1000000 in
theorem rdOpen_any (h : RefC w B p F (nmM M) K V X) (hat : M.at_ ≤ M.old.length) (hol : M.old.length ≤ 1099511627776) (hyl : M.young.length ≤ 1099511627776) :
    Calls Try.prog 143 #[.pointer (some ⟨p, 0, none⟩)] w fun e w' => ∃ v, e = .returned v ∧ ∃ vals, w'.ownsRow w.heap.size 39 1 v (opn M).length vals ∧ OpnV w vals M ∧ Fr (fun _ => False) w w' := by
  have hl1 : X.r1.length = M.old.length := by rw [h.row1.len]; exact List.length_map _
  have hl2 : X.r2.length = M.young.length := by rw [h.row2.len]; exact List.length_map _
  have HO := Lib.hid h.opens
  have hol2 : (opn M).length = M.old.length - M.at_ + M.young.length := by unfold opn; rw [List.length_append, List.length_drop]
  have HOL := Lib.hid hol2
  have HONE := Lib.hid h.row1.slices
  have HONE2 := Lib.hid h.row2.one
  have HRD2 := Lib.hid (h.row2.rd (by unfold maxLen; omega))
  have hcell : ∀ W, Fr (fun _ => False) w W → W.cell? ⟨p, 1, none⟩ = some (rowV X.t1 X.r1) ∧ W.cell? ⟨p, 2, none⟩ = some (rowV X.t2 X.r2) := fun W hf => ⟨(h.quiet hf).cells.2.1, (h.quiet hf).cells.2.2.1⟩
  have HAT : Hid (∀ W, Fr (fun _ => False) w W → ∀ (i : Nat) (u : Value), X.r1[i]? = some u → ∃ g, rowV X.t1 X.r1 = .slice (some ⟨g, 0, none⟩) M.old.length M.old.length ∧ W.cell? ⟨g, i, none⟩ = some u) := fun W hf i u hu => by
    have hr : X.r1 ≠ [] := by intro e; rw [e] at hu; simp at hu
    refine ⟨X.t1, by rw [rowV_of hr, hl1], ?_⟩
    rw [cell_of_blk ((h.quiet hf).row1.blk hr).1]
    simpa using hu
  obtain ⟨a1, e1⟩ := rowV_eq X.t1 X.r1
  obtain ⟨a2, e2⟩ := rowV_eq X.t2 X.r2
  have c3 := h.cells.2.2.2.1
  have c3' : w.cell? ⟨p, 3, none⟩ = some (.int .i64 (M.at_ : Int)) := c3
  rw [e1, e2, hl1, hl2] at hcell
  rw [e2, hl2] at HRD2
  rw [e1, hl1] at HAT
  have HC := Lib.hid hcell
  obtain ⟨j0, hj, hy0, hy1, hy2⟩ := info_parts info_strs
  have HJ := Lib.hid hj
  have HY0 := Lib.hid hy0
  have HY1 := Lib.hid hy1
  have HY2 := Lib.hid hy2
  have HL1 := Lib.hid hl1
  have HL2 := Lib.hid hl2
  clear h hcell c3 e1 e2 hj hy0 hy1 hy2 hol2 hl1 hl2
  go_enter Try.func143, Try.ntmps143
  go_wp2_with fail
  go_loopw [3, 4] (fun v i wr => ∃ k : Nat, i = .int .i64 (M.at_ + k : Nat) ∧ M.at_ + k ≤ M.old.length ∧ Hid (wr.ownsRow w.heap.size 39 1 v k ((X.r1.drop M.at_).take k)) ∧ Hid (Fr (fun _ => False) w wr)) (fun _ i _ => M.old.length - (intOf i).toNat)
  case atStart => exact ⟨0, by rw [Nat.add_zero], by omega, World.ownsRow_nil _ _ _ _, Fr.refl _ _⟩
  case round =>
    obtain ⟨k, rfl, hk, HR, HF⟩ := hrel
    obtain ⟨v, rfl⟩ : ∃ v, v = u3 := ⟨_, rfl⟩
    obtain ⟨wo, rfl⟩ : ∃ wo, wo = wr := ⟨_, rfl⟩
    obtain ⟨d1, d2⟩ := HC.out wo HF.out
    clear c3'
    have HBS : Hid (w.heap.size ≤ wo.heap.size) := HF.out.size
    by_cases hlt : M.at_ + k < M.old.length
    · obtain ⟨u, hu⟩ : ∃ u, X.r1[M.at_ + k]? = some u := ⟨_, List.getElem?_eq_getElem (by rw [HL1.out]; exact hlt)⟩
      obtain ⟨g, e, hc⟩ := HAT.out wo HF.out _ u hu
      cases e
      obtain ⟨ua, un, uc, rfl⟩ := HONE.out u (List.mem_of_getElem? hu)
      have HU : Hid ((X.r1.drop M.at_).take (k + 1) = (X.r1.drop M.at_).take k ++ [.slice ua un uc]) := by
        show _ = _
        rw [List.take_add_one, List.getElem?_drop, hu]
        rfl
      have b0 : (0 : Int) ≤ ((M.at_ + k : Nat) : Int) := by omega
      have b1 : ((M.at_ + k : Nat) : Int) < (M.old.length : Int) := by omega
      clear hu
      go_wp2_with (at_builtin; refine wpl_append2 rfl (.tmp 18) (.tmp 26) 81 rfl w.heap.size 39 j0 (.slice none 0 0) 1 24 Try.underlying81 HJ.out HY0.out HY1.out HY2.out rfl (by decide) v k _ rfl (HR.out.alloc _) _ 1 [.slice ua un uc] rfl (RdC.of_owns (World.ownsRow_lit (base := wo.heap.size) (e := 39) (size := 1) wo #[.slice ua un uc] 1 (Nat.le_refl _) (by decide) rfl)) (by simp [Value.oneCell']) (by unfold maxLen; omega) (by omega) (by rw [World.size_alloc]; have := HBS.out; omega) ?_; intro v6 w6 hown hgrow hap; have HO6 := Lib.hid hown; have HF6 : Hid (Fr (fun _ => False) w w6) := (HF.out.thenAlloc _).wide (Fr.of_grownBy hgrow) (fun g hg => .inr (own_blk HR.out hg).1); clear hown hgrow hap)
      go_roundw
      case rel => exact ⟨k + 1, by go_num, by omega, (by rw [HU.out]; exact HO6.out), HF6⟩
      case measure => simp [intOf]; omega
    · have hkl : M.at_ + k = M.old.length := by omega
      have hT : Hid ((X.r1.drop M.at_).take k = X.r1.drop M.at_) := by
        show _ = _
        rw [List.take_of_length_le (by rw [List.length_drop, HL1.out]; omega)]
      have b1 : ¬ ((M.at_ + k : Nat) : Int) < (M.old.length : Int) := by omega
      clear hlt
      go_wp2_with (at_builtin; refine wpl_append2 rfl (.tmp 28) (.tmp 32) 81 rfl w.heap.size 39 j0 (.slice none 0 0) 1 24 Try.underlying81 HJ.out HY0.out HY1.out HY2.out rfl (by decide) v k _ rfl HR.out (.slice a2 M.young.length M.young.length) M.young.length _ rfl (HRD2.out.fr HF.out (fun _ _ h => h)) HONE2.out (by unfold maxLen; omega) (by omega) HBS.out ?_; intro v6 w6 hown hgrow hap; have HO6 := Lib.hid hown; have HF6 : Hid (Fr (fun _ => False) w w6) := HF.out.wide (Fr.of_grownBy hgrow) (fun g hg => .inr (own_blk HR.out hg).1); clear hown hgrow hap)
      go_ret
      refine ⟨v6, rfl, X.r1.drop M.at_ ++ X.r2, ?_, HO.out, HF6.out⟩
      have h9 := HO6.out
      rw [hT.out] at h9
      rw [HOL.out, show M.old.length - M.at_ = k from by omega]
      exact h9
/-- the keys that Each tells -/
def eachK (M : DM) : List ByteArray := (opn M).flatten.map E.key
theorem eachK_at {M : DM} {i : Nat} {c : List E} (h : (opn M)[i]? = some c) : ((opn M).take (i + 1)).flatten.map E.key = ((opn M).take i).flatten.map E.key ++ nm c := by
  rw [List.take_add_one, h]
  simp [nm]
theorem eachK_le {M : DM} (i : Nat) : (((opn M).take i).flatten.map E.key).length ≤ (eachK M).length := by
  unfold eachK
  rw [List.length_map, List.length_map]
  conv => rhs; rw [← List.take_append_drop i (opn M), List.flatten_append, List.length_append]
  omega
end
end Go.Proofs.Ytgomilodeaafdaa
namespace Go.Proofs.Ytgomilodeaafdaa
open Go.RowKit
theorem nm_len (c : List E) : (nm c).length = c.length := List.length_map ..
section
variable (w : World) (B p : Nat) (F : Nat → Prop) (M : DM) (L : Pl) (X : RB)
/-- the keys and the values as Each tells them -/
def EachPost (w : World) (M : DM) (L : Pl) (e : Ending) (w' : World) : Prop := ∃ v1 v2, e = .returned (.tuple #[v1, v2]) ∧ RowS w.heap.size w' v1 (eachK M) ∧
  w'.ownsRow w.heap.size 3 1 v2 (eachK M).length ((eachK M).map fun k => .int .i64 (valN L k)) ∧ Fr (fun _ => False) w w'
theorem ints1 (f : ByteArray → Int) (l : List ByteArray) : ∀ u ∈ l.map (fun k => Value.int .i64 (f k)), u.oneCell' = true := by
  intro u hu; obtain ⟨x, _, rfl⟩ := List.mem_map.1 hu; rfl
set_option maxRecDepth 100000 in
set_option maxHeartbeats 4000000 in
theorem rdEach_any (h : RefD w B p F (nmM M) L X) (hi : Inv M) (hol : M.old.length ≤ 1099511627776) (hyl : M.young.length ≤ 1099511627776) (hn : M.n ≤ 1099511627776) (hlen : L.length = M.n) (hmem : ∀ k ∈ eachK M, (fdG k L).isSome = true) :
    Calls Try.prog 93 #[.pointer (some ⟨p, 0, none⟩)] w (EachPost w M L) := by
  have hat : M.at_ ≤ M.old.length := by
    by_cases hy : M.young = []
    · rw [hi.still hy]; exact Nat.zero_le _
    · exact Nat.le_of_lt (hi.moving hy)
  have HOP := Lib.hid (rdOpen_any w B p F M _ _ X h.c hat hol hyl)
  obtain ⟨kv, hkv⟩ : ∃ v, X.kv = v := ⟨_, rfl⟩
  obtain ⟨vv, hvv⟩ : ∃ v, X.vv = v := ⟨_, rfl⟩
  have hcell : ∀ W, Fr (fun _ => False) w W → W.cell? ⟨p, 4, none⟩ = some kv ∧ W.cell? ⟨p, 5, none⟩ = some vv ∧ RdC W 1 kv L.length (L.map fun x => .string x.1) ∧ RdC W 1 vv L.length (L.map fun x => .int .i64 x.2) := fun W hf => by
    have h2 := h.c.quiet hf
    have r1 := RdC.of_owns h2.ks
    have r2 := RdC.of_owns h2.vs
    rw [List.length_map, List.map_map, hkv] at r1
    rw [List.length_map, List.map_map, hvv] at r2
    rw [← hkv, ← hvv]
    rw [← hkv] at r1
    rw [← hvv] at r2
    exact ⟨h2.cells.2.2.2.2.1, h2.cells.2.2.2.2.2, r1, r2⟩
  obtain ⟨va, vc, rfl⟩ := rd_sliceN (hcell w (Fr.refl _ _)).2.2.2
  have HC := Lib.hid hcell
  have HM := Lib.hid hmem
  have hel : (eachK M).length = M.n := by unfold eachK; rw [List.length_map, opn_flatten hi, hi.count]
  have HEL := Lib.hid hel
  have hon : (opn M).length ≤ 2199023255552 := by unfold opn; rw [List.length_append, List.length_drop]; omega
  obtain ⟨i0, hi0, hz0, hz1, hz2⟩ := info_parts info_str
  have HI := Lib.hid hi0
  have HZ0 := Lib.hid hz0
  have HZ1 := Lib.hid hz1
  have HZ2 := Lib.hid hz2
  obtain ⟨j0, hj, hy0, hy1, hy2⟩ := info_parts info_int
  have HJ := Lib.hid hj
  have HY0 := Lib.hid hy0
  have HY1 := Lib.hid hy1
  have HY2 := Lib.hid hy2
  clear h hi hcell hmem hel hkv hvv hi0 hz0 hz1 hz2 hj hy0 hy1 hy2
  go_enter Try.func93, Try.ntmps93
  go_wp2_with fail
  refine HOP.out.mono ?_
  rintro e w1 ⟨ov, rfl, vals, hov, hvals, hf1⟩
  obtain ⟨oa, oc, rfl⟩ := ow_sliceN hov
  have HOV := Lib.hid hov
  have HVS := Lib.hid hvals
  have HF1 := Lib.hid hf1
  have HB1 : Hid (w.heap.size ≤ w1.heap.size) := hf1.size
  clear hov hvals hf1 HOP
  go_wp2_with fail
  go_loopw [4, 5, 15] (fun v1 v2 j wr => ∃ k : Nat, j = .int .i64 k ∧ k ≤ (opn M).length ∧ Hid (RowS w1.heap.size wr v1 (((opn M).take k).flatten.map E.key)) ∧ Hid (wr.ownsRow w1.heap.size 3 1 v2 (((opn M).take k).flatten.map E.key).length ((((opn M).take k).flatten.map E.key).map fun k => .int .i64 (valN L k))) ∧ Hid (Fr (fun _ => False) w1 wr)) (fun _ _ j _ => (opn M).length - (intOf j).toNat)
  case atStart => exact ⟨0, rfl, by omega, World.ownsRow_nil _ _ _ _, World.ownsRow_nil _ _ _ _, Fr.refl _ _⟩
  case round =>
    obtain ⟨k, rfl, hk, HK1, HV1, HF⟩ := hrel
    obtain ⟨v1, rfl⟩ : ∃ v, v = u4 := ⟨_, rfl⟩
    obtain ⟨v2, rfl⟩ : ∃ v, v = u5 := ⟨_, rfl⟩
    obtain ⟨wo, rfl⟩ : ∃ wo, wo = wr := ⟨_, rfl⟩
    by_cases hlt : k < (opn M).length
    · obtain ⟨c, hc⟩ : ∃ c, (opn M)[k]? = some c := ⟨_, List.getElem?_eq_getElem hlt⟩
      obtain ⟨u, hu, hru⟩ := (HVS.out.quiet HF1.out).ch k c hc
      obtain ⟨g, off, e9, hcl⟩ := (RdC.of_owns (ow_fr HOV.out HF.out (fun _ _ h => h))).at (by rw [HVS.out.len]; omega)
      cases e9
      have hcu := hcl k u hu
      obtain ⟨S, hS⟩ : ∃ S, nm c = S := ⟨_, rfl⟩
      obtain ⟨P, hP⟩ : ∃ P, ((opn M).take k).flatten.map E.key = P := ⟨_, rfl⟩
      have hnx := eachK_at hc
      have hle := eachK_le (M := M) (k + 1)
      rw [hP, hS] at hnx
      rw [hnx, List.length_append, HEL.out] at hle
      rw [hP] at HK1 HV1
      rw [hS] at hru
      have HNX := Lib.hid hnx
      have HSM : Hid (∀ y ∈ S, (fdG y L).isSome = true) := fun y hy => HM.out y (by
        unfold eachK
        rw [← hS] at hy
        obtain ⟨e, he, rfl⟩ := List.mem_map.1 hy
        exact List.mem_map_of_mem (List.mem_flatten.2 ⟨c, List.mem_of_getElem? hc, he⟩))
      obtain ⟨ua, uc, rfl⟩ := rd_sliceN hru
      have HRU : Hid (∀ W, Fr (fun _ => False) w1 W → RdC W 1 (.slice ua S.length uc) S.length (S.map .string)) := fun W hf => hru.fr hf (fun _ _ h => h)
      have b0 : (0 : Int) ≤ (k : Int) := by omega
      have b1 : (k : Int) < ((opn M).length : Int) := by omega
      clear hc hu hru hcl hS hP hnx
      go_wp2_with fail
      go_loopw [4, 5, 21] (fun v1 v2 j wr => ∃ i : Nat, j = .int .i64 i ∧ i ≤ S.length ∧ Hid (RowS w1.heap.size wr v1 (P ++ S.take i)) ∧ Hid (wr.ownsRow w1.heap.size 3 1 v2 (P ++ S.take i).length ((P ++ S.take i).map fun k => .int .i64 (valN L k))) ∧ Hid (Fr (fun _ => False) w1 wr)) (fun _ _ j _ => S.length - (intOf j).toNat)
      case atStart => exact ⟨0, rfl, by omega, (by show World.ownsRow _ _ _ _ _ _ _; rw [List.take_zero, List.append_nil]; exact HK1.out), (by show World.ownsRow _ _ _ _ _ _ _; rw [List.take_zero, List.append_nil]; exact HV1.out), HF.out⟩
      case round =>
        obtain ⟨i, rfl, hi, HK2, HV2, HF2⟩ := hrel
        obtain ⟨v3, rfl⟩ : ∃ v, v = u4 := ⟨_, rfl⟩
        obtain ⟨v4, rfl⟩ : ∃ v, v = u5 := ⟨_, rfl⟩
        obtain ⟨wq, rfl⟩ : ∃ wq, wq = wr := ⟨_, rfl⟩
        clear hcu
        by_cases hli : i < S.length
        · obtain ⟨g2, off2, e9, hsc⟩ := rd_text (HRU.out wq HF2.out) i hli
          cases e9
          obtain ⟨y, hy⟩ : ∃ y, S[i] = y := ⟨_, rfl⟩
          have hts : S.take (i + 1) = S.take i ++ [y] := by rw [List.take_succ_eq_append_getElem hli, hy]
          have hfy := HSM.out y (hy ▸ List.getElem_mem hli)
          rw [hy] at hsc
          have HTS := Lib.hid hts
          have c0 : (0 : Int) ≤ (i : Int) := by omega
          have c1 : (i : Int) < (S.length : Int) := by omega
          have hpl : (P ++ S.take i).length = P.length + i := by rw [List.length_append, List.length_take]; omega
          obtain ⟨q, hq⟩ := Option.isSome_iff_exists.1 hfy
          have hql := fdG_lt hq
          obtain ⟨x, hx⟩ := fdG_some hq
          have HX := Lib.hid hx
          have hvy : valN L y = x := by unfold valN; rw [hq]; show ((L[q]?).map (·.2)).getD 0 = x; rw [hx]; rfl
          have HVY := Lib.hid hvy
          have hix : idxV (fdG y L) = (q : Int) := by rw [hq]; rfl
          have HBQ : Hid (w1.heap.size ≤ wq.heap.size) := HF2.out.size
          obtain ⟨n0, hn0⟩ : ∃ n, (P ++ S.take i).length = n := ⟨_, rfl⟩
          have hn9 : n0 ≤ 1099511627776 := by omega
          rw [hn0] at HV2
          have HK3 : Hid (wq.ownsRow w1.heap.size 9 1 v3 n0 ((P ++ S.take i).map .string)) := by
            have h9 : wq.ownsRow w1.heap.size 9 1 v3 (P ++ S.take i).length ((P ++ S.take i).map .string) := HK2.out
            rw [hn0] at h9
            exact h9
          have HN0 := Lib.hid hn0
          clear hy hts hfy hq hx hvy hpl hn0 HK2
          go_upto_region 12 with (at_builtin; refine wpl_append2 rfl (.tmp 25) (.tmp 27) 39 rfl w1.heap.size 9 i0 (.string ⟨#[]⟩) 1 16 Try.underlying39 HI.out HZ0.out HZ1.out HZ2.out rfl (by decide) v3 n0 _ rfl (HK3.out.alloc _) _ 1 [.string y] rfl (RdC.of_owns (World.ownsRow_lit (base := wq.heap.size) (e := 9) (size := 1) wq #[.string y] 1 (Nat.le_refl _) (by decide) rfl)) (by simp [Value.oneCell']) (by unfold maxLen; omega) (by omega) (by rw [World.size_alloc]; have := HBQ.out; omega) ?_; intro v6 w6 hown hgrow hap; have HO6 := Lib.hid hown; have HF6 : Hid (Fr (fun _ => False) w1 w6) := (HF2.out.thenAlloc _).wide (Fr.of_grownBy hgrow) (fun g hg => .inr (own_blk HK3.out hg).1); have HV6 : Hid (w6.ownsRow w1.heap.size 3 1 v4 n0 ((P ++ S.take i).map fun k => .int .i64 (valN L k))) := ow_fr (HV2.out.alloc _) (Fr.of_grownBy hgrow) (fun g h3 h4 => BT.ne (own_blk (HV2.out.alloc (.cells #[.string y] 9)) h3).2.2 (own_blk (HK3.out.alloc (.cells #[.string y] 9)) h4).2.2 (by decide) rfl); clear hown hgrow hap)
          have HFW6 : Hid (Fr (fun _ => False) w w6) := HF1.out.trans HF6.out (fun _ h _ => h)
          obtain ⟨d4, d5, dk, dv⟩ := HC.out w6 HFW6.out
          have HIX := Lib.hid (rdIndex_any w6.drew p L kv y ((Fr.drew (fun _ => False) w6).cell d4 (fun h => h)) (dk.fr (Fr.drew (fun _ => False) w6) (fun _ _ h => h)))
          rw [hix] at HIX
          obtain ⟨g3, off3, e9, hvc⟩ := dv.at (by rw [List.length_map]; omega)
          cases e9
          have d6 := hvc q (.int .i64 x) (by rw [List.getElem?_map, HX.out]; rfl)
          have e0 : (0 : Int) ≤ (q : Int) := by omega
          have e1 : (q : Int) < (L.length : Int) := by omega
          have e2 : q < M.n := by omega
          have HB6 : Hid (w1.heap.size ≤ w6.heap.size) := HF6.out.size
          have HV7 : Hid ((w6.drew.alloc (.cells #[.int .i64 x] 3)).ownsRow w1.heap.size 3 1 v4 n0 ((P ++ S.take i).map fun k => .int .i64 (valN L k))) := (ow_fr HV6.out (Fr.drew (fun _ => False) w6) (fun _ _ h => h)).alloc _
          have HLT : Hid (RdC (w6.drew.alloc (.cells #[.int .i64 x] 3)) 1 (.slice (some ⟨w6.heap.size, 0, none⟩) 1 1) 1 [.int .i64 x]) := RdC.of_owns (World.ownsRow_lit (base := w6.heap.size) (e := 3) (size := 1) w6.drew #[.int .i64 x] 1 (Nat.le_refl _) (by decide) rfl)
          clear d4 dk dv hvc hix
          go_region_law (first
              | (go_simp; go_at_call 135; ((with_reducible refine HIX.out.mono ?_); rintro e w7 ⟨rfl, rfl⟩; dsimp only))
              | (refine step_append (by rfl) (.tmp 29) (.tmp 39) 106 (by rfl) w1.heap.size 3 j0 (.int .i64 0) 1 8 Try.underlying106 HJ.out HY0.out HY1.out HY2.out rfl (by decide) v4 n0 _ (by rfl) HV7.out (.slice (some ⟨w6.heap.size, 0, none⟩) 1 1) 1 _ (by rfl) HLT.out (by simp [Value.oneCell']) (by unfold maxLen; omega) (by omega) (by have := HB6.out; simp; omega) ?_; intro v8 w8 hown hgrow; have HO8 := Lib.hid hown; have HF8 : Hid (Fr (fun _ => False) w1 w8) := ((HF6.out.thenDrew).thenAlloc _).wide (Fr.of_grownBy hgrow) (fun g hg => .inr (own_blk HV7.out hg).1); have HK8 : Hid (w8.ownsRow w1.heap.size 9 1 v6 (n0 + 1) ((P ++ S.take i).map .string ++ [.string y])) := ow_fr ((ow_fr HO6.out (Fr.drew (fun _ => False) w6) (fun _ _ h => h)).alloc (.cells #[.int .i64 x] 3)) (Fr.of_grownBy hgrow) (fun g h3 h4 => BT.ne (own_blk ((ow_fr HO6.out (Fr.drew (fun _ => False) w6) (fun _ _ h => h)).alloc (.cells #[.int .i64 x] 3)) h3).2.2 (own_blk HV7.out h4).2.2 (by decide) rfl); clear hown hgrow))
          all_goals
            have hk9 : RowS w1.heap.size w8 v6 (P ++ S.take (i + 1)) := by
              show World.ownsRow _ _ _ _ _ _ _
              rw [HTS.out, ← List.append_assoc, List.length_append, HN0.out, List.map_append]
              exact HK8.out
            have hv9 : w8.ownsRow w1.heap.size 3 1 v8 (P ++ S.take (i + 1)).length ((P ++ S.take (i + 1)).map fun k => .int .i64 (valN L k)) := by
              rw [HTS.out, ← List.append_assoc, List.length_append, HN0.out, List.map_append, List.map_singleton, HVY.out]
              exact HO8.out
            have HK9 := Lib.hid hk9
            have HV9 := Lib.hid hv9
            clear hk9 hv9
            go_wp2_with fail
            go_roundw
            case rel => exact ⟨i + 1, by go_num, by omega, HK9, HV9, HF8⟩
            case measure => simp [intOf]; omega
        · obtain rfl : i = S.length := by omega
          have HT : Hid (P ++ S.take S.length = ((opn M).take (k + 1)).flatten.map E.key) := by show _ = _; rw [List.take_length, HNX.out]
          rw [HT.out] at HK2 HV2
          go_wp2_with fail
          go_roundw
          case rel => exact ⟨k + 1, by go_num, by omega, HK2, HV2, HF2⟩
          case measure => simp [intOf]; omega
    · obtain rfl : k = (opn M).length := by omega
      have hT : ((opn M).take (opn M).length).flatten.map E.key = eachK M := by unfold eachK; rw [List.take_length]
      rw [hT] at HK1 HV1
      clear hT
      go_wp2_with fail
      go_ret2
      exact ⟨v1, v2, rfl, ow_base HK1.out HB1.out, ow_base HV1.out HB1.out, HF1.out.trans HF.out (fun _ h _ => h)⟩
end
end Go.Proofs.Ytgomilodeaafdaa
namespace Go.Proofs.Ytgomilodeaafdaa
open Go.RowKit
theorem pick_empty {o : List (List E)} {f i : Nat} (h : o[i]? = some []) : pick o (f + 1) i = pick o f ((i + 1) % o.length) := by
  conv => lhs; unfold pick
  rw [h]
section
variable (w : World) (B p : Nat) (F : Nat → Prop) (M : DM) (L : Pl) (X : RB)
theorem rdSample_none (h : RefC w B p F (nmM M) (L.map (·.1)) (L.map (·.2)) X) (hl : L.length = 0) (r : Int) :
    Calls Try.prog 80 #[.pointer (some ⟨p, 0, none⟩), .int .u64 r] w fun e w' => e = .returned (.tuple #[.string ⟨#[]⟩, .bool false]) ∧ w = w' := by
  have HL := Lib.hid (rdLen_any w B p F _ _ _ X h)
  rw [List.length_map, hl] at HL
  clear h
  go_enter Try.func80, Try.ntmps80
  go_wp2_with fail
  refine HL.out.mono ?_
  rintro e w1 ⟨rfl, rfl⟩
  go_wp2_with fail
  go_ret2
  exact ⟨rfl, rfl⟩
set_option maxRecDepth 100000 in
set_option maxHeartbeats 2000000 in
theorem rdSample_some (h : RefC w B p F (nmM M) (L.map (·.1)) (L.map (·.2)) X) (hi : Inv M) (hol : M.old.length ≤ 1099511627776) (hyl : M.young.length ≤ 1099511627776) (hn9 : M.n ≤ 1099511627776) (hlen : L.length = M.n) (hn : M.n ≠ 0) (r : Nat) (hr : r < 18446744073709551616) :
    Calls Try.prog 80 #[.pointer (some ⟨p, 0, none⟩), .int .u64 (r : Int)] w fun e w' => e = .returned (.tuple #[.string (drawM M r), .bool true]) ∧ Fr (fun _ => False) w w' := by
  have ho := Di.old_of_n hi hn
  have hat : M.at_ < M.old.length := by
    by_cases hy : M.young = []
    · rw [hi.still hy]; exact List.length_pos_iff.2 ho
    · exact hi.moving hy
  have HL := Lib.hid (rdLen_any w B p F _ _ _ X h)
  rw [List.length_map] at HL
  have HOP := Lib.hid (rdOpen_any w B p F M _ _ X h (Nat.le_of_lt hat) hol hyl)
  have hT := Di.opn_len M
  obtain ⟨T, hTe⟩ : ∃ T, (opn M).length = T := ⟨_, rfl⟩
  rw [hTe] at hT HOP
  have hTpos : 0 < T := by omega
  have hT9 : T ≤ 2199023255552 := by omega
  have hpick := pick_some (opn M) (r % T) (by rw [hTe]; exact Nat.mod_lt _ hTpos) (opn_some hi hn)
  rw [hTe] at hpick
  obtain ⟨Bk, hB⟩ : ∃ B, pick (opn M) T (r % T) = B := ⟨_, rfl⟩
  rw [hB] at hpick
  have hdraw : drawM M r = match Bk[r / T % Bk.length]? with | some e => e.key | none => ⟨#[]⟩ := by
    unfold drawM
    simp only
    rw [hTe, hB]
    rfl
  have hchl : ∀ (i : Nat) (c : List E), (opn M)[i]? = some c → c.length ≤ M.n := fun i c hc => by
    rw [hi.count, ← opn_flatten hi]
    exact (List.sublist_flatten_of_mem (List.mem_of_getElem? hc)).length_le
  have HD := Lib.hid hdraw
  have HB := Lib.hid hB
  have HTe := Lib.hid hTe
  have HCL := Lib.hid hchl
  have g1 : ((L.length : Int) == 0) = false := beq_eq_false_iff_ne.2 (by omega)
  have e1 : IntKind.u64.wrap (T : Int) = (T : Int) := IntWalk.u64_in _ (by omega)
  have e2 : (r : Int).tmod (T : Int) = ((r % T : Nat) : Int) := by rw [← Int.ofNat_tmod]
  have hn1 : ¬ (T : Int) = 0 := by omega
  clear h hi hol hyl hat hdraw hB hchl hT ho hTe
  go_enter Try.func80, Try.ntmps80
  go_wp2_with fail
  refine HL.out.mono ?_
  rintro e w1 ⟨rfl, rfl⟩
  go_wp2_with fail
  refine HOP.out.mono ?_
  rintro e w1 ⟨ov, rfl, vals, hov, hvals, hf1⟩
  obtain ⟨oa, oc, rfl⟩ := ow_sliceN hov
  have HOV := Lib.hid hov
  have HVS := Lib.hid (hvals.quiet hf1)
  have HF1 := Lib.hid hf1
  clear hov hvals hf1 HOP
  have HAT : Hid (∀ (ii : Nat) (c : List E), (opn M)[ii]? = some c → ∃ g off a cap, oa = some ⟨g, off, none⟩ ∧ w1.cell? ⟨g, off + ii, none⟩ = some (.slice a c.length cap) ∧ RdC w1 1 (.slice a c.length cap) c.length ((nm c).map .string)) := fun ii c hc => by
    obtain ⟨u, hu, hru⟩ := HVS.out.ch ii c hc
    rw [nm_len] at hru
    obtain ⟨g, off, e9, hcl⟩ := (RdC.of_owns HOV.out).at (by rw [HVS.out.len, HTe.out]; omega)
    obtain ⟨a, cap, rfl⟩ := rd_sliceN hru
    cases e9
    exact ⟨g, off, a, cap, rfl, hcl ii _ hu, hru⟩
  have HMOD : Hid (r % T < T) := Nat.mod_lt _ hTpos
  go_wp2_with fail
  go_loopg [8] T (fun n i wr => wr = w1 ∧ ∃ k ii : Nat, Hid (k = n) ∧ i = .int .u64 ii ∧ ii < T ∧ Hid (pick (opn M) k ii = Bk))
  case atStart => exact ⟨rfl, T, r % T, rfl, rfl, HMOD.out, HB⟩
  case round =>
    obtain ⟨rfl, k, ii, HK, rfl, hii, HP⟩ := hrel
    cases k with
    | zero => exact absurd HP.out (fun e => hpick e.symm)
    | succ k =>
      obtain ⟨c, hc⟩ : ∃ c, (opn M)[ii]? = some c := ⟨_, List.getElem?_eq_getElem (by rw [HTe.out]; exact hii)⟩
      obtain ⟨g, off, a, cap, e9, d1, hrd⟩ := HAT.out ii c hc
      subst e9
      have hcn := HCL.out ii c hc
      have b0 : (0 : Int) ≤ (ii : Int) := by omega
      have b1 : (ii : Int) < (T : Int) := by omega
      cases c with
      | nil =>
        have HNX : Hid (pick (opn M) k ((ii + 1) % T) = Bk) := by
          show _ = _
          rw [← HTe.out, ← pick_empty hc]; exact HP.out
        have e3 : IntKind.u64.wrap ((ii : Int) + 1) = ((ii + 1 : Nat) : Int) := by rw [IntWalk.u64_in _ (by omega)]; omega
        have e4 : ((ii + 1 : Nat) : Int).tmod (T : Int) = (((ii + 1) % T : Nat) : Int) := by rw [← Int.ofNat_tmod]
        have HM2 : Hid ((ii + 1) % T < T) := Nat.mod_lt _ hTpos
        clear hc hrd hcn
        go_wp2_with fail
        go_roundg k
        case measure => have := HK.out; omega
        case rel =>
          refine ⟨rfl, k, (ii + 1) % T, rfl, ?_, HM2.out, HNX⟩
          rw [Int.natCast_emod, Int.natCast_add]; rfl
      | cons e0 c0 =>
        have hbk : Bk = e0 :: c0 := by rw [← HP.out, pick_here _ _ _ _ _ hc]
        have hlp : 0 < (e0 :: c0).length := by simp
        obtain ⟨q, hq⟩ : ∃ q, r / T % (e0 :: c0).length = q := ⟨_, rfl⟩
        have hql : q < (e0 :: c0).length := by rw [← hq]; exact Nat.mod_lt _ hlp
        have hdr : drawM M r = ((e0 :: c0)[q]).key := by rw [HD.out, hbk, hq, List.getElem?_eq_getElem hql]
        obtain ⟨g2, off2, e9, hsc⟩ := hrd.at (by rw [List.length_map, nm_len]; omega)
        cases e9
        have d2 := hsc q (.string ((e0 :: c0)[q]).key) (by rw [List.getElem?_map]; unfold nm; rw [List.getElem?_map, List.getElem?_eq_getElem hql]; rfl)
        rw [← hdr] at d2
        obtain ⟨n0, hn0⟩ : ∃ n, (e0 :: c0).length = n := ⟨_, rfl⟩
        rw [hn0] at d1 hq hql hlp hcn
        have hquo : (r : Int) / (T : Int) = ((r / T : Nat) : Int) := (Int.natCast_ediv r T).symm
        obtain ⟨Q, hQ⟩ : ∃ Q, r / T = Q := ⟨_, rfl⟩
        have hqle : Q ≤ r := by rw [← hQ]; exact Nat.div_le_self r T
        have e5 : IntKind.u64.wrap ((r : Int) / (T : Int)) = (r : Int) / (T : Int) := by rw [hquo, hQ]; exact IntWalk.u64_in _ (by omega)
        have e6 : ((r : Int) / (T : Int)).tmod (n0 : Int) = (q : Int) := by rw [hquo, ← Int.ofNat_tmod, hq]
        have e7 : ((r : Int) / (T : Int)) % (n0 : Int) = (q : Int) := by rw [hquo, ← hq]; rfl
        have e8 : IntKind.u64.wrap (n0 : Int) = (n0 : Int) := IntWalk.u64_in _ (by omega)
        have hn2 : ¬ (n0 : Int) = 0 := by omega
        have b2 : (0 : Int) ≤ (q : Int) := by omega
        have b3 : (q : Int) < (n0 : Int) := by omega
        have gl : ((n0 : Int) == 0) = false := beq_eq_false_iff_ne.2 (by omega)
        obtain ⟨S, hS⟩ : ∃ S, drawM M r = S := ⟨_, rfl⟩
        have HS := Lib.hid hS
        rw [hS] at d2
        clear hc hrd hcn hbk hdr hsc hS hq hquo hqle hQ HB HP
        go_upto_region 8 with (fail)
        go_quiet (fail)
        go_wp2
        go_ret2
        exact ⟨by rw [HS.out]; rfl, HF1.out.thenDrewN _⟩
end
theorem rdSample_any (w : World) (B p : Nat) (F : Nat → Prop) (M : DM) (L : Pl) (X : RB) (h : RefC w B p F (nmM M) (L.map (·.1)) (L.map (·.2)) X) (hi : Inv M) (hol : M.old.length ≤ 1099511627776) (hyl : M.young.length ≤ 1099511627776) (hn9 : M.n ≤ 1099511627776) (hlen : L.length = M.n) (r : Nat) (hr : r < 18446744073709551616) :
    Calls Try.prog 80 #[.pointer (some ⟨p, 0, none⟩), .int .u64 (r : Int)] w fun e w' => e = .returned (Di.sampV M r) ∧ Fr (fun _ => False) w w' := by
  unfold Di.sampV
  by_cases hn : M.n = 0
  · rw [if_pos hn]
    exact (rdSample_none w B p F M L X h (by omega) r).mono fun _ _ ⟨h1, h2⟩ => ⟨h1, h2 ▸ Fr.refl _ _⟩
  · rw [if_neg hn]
    exact rdSample_some w B p F M L X h hi hol hyl hn9 hlen hn r hr
end Go.Proofs.Ytgomilodeaafdaa
namespace Go.Proofs.Ytgomilodeaafdaa
open Go.RowKit
theorem own_put1 {w : World} {B : Nat} {e : TypeId} {g n cap i : Nat} {xs : List Value} (h : w.ownsRow B e 1 (.slice (some ⟨g, 0, none⟩) n cap) n xs) (hi : i < n) (x : Value) :
    (w.setCell ⟨g, i, none⟩ x).ownsRow B e 1 (.slice (some ⟨g, 0, none⟩) n cap) n (xs.set i x) := by
  obtain ⟨hl, ⟨h0, _⟩ | ⟨g', cap', cur, he, hbase, hb, h1, h2, h3, h4⟩⟩ := h
  · cases h0
  cases he
  refine ⟨by rw [List.length_set]; exact hl, .inr ⟨g, cap, _, rfl, hbase, heap_setCell_same w g i _ _ x hb, h1, h2, by rw [Array.size_setIfInBounds]; exact h3, ?_⟩⟩
  rw [Array.toList_setIfInBounds, List.take_set, h4]
theorem own_cell1 {w : World} {B : Nat} {e : TypeId} {g n cap i : Nat} {xs : List Value} (h : w.ownsRow B e 1 (.slice (some ⟨g, 0, none⟩) n cap) n xs) (hi : i < n) : w.cell? ⟨g, i, none⟩ = xs[i]? ∧ w.frozen? ⟨g, i, none⟩ = false ∧ g < w.heap.size := by
  obtain ⟨-, ⟨h9, _⟩ | ⟨g9, cap9, cur9, he9, _, hb9, k91, _, k93, k94⟩⟩ := h
  · cases h9
  cases he9
  exact ⟨by rw [cell_of_blk hb9, ← Array.getElem?_toList, ← List.getElem?_take_of_lt (show i < n * 1 by omega), k94], free_of_blk hb9 _, (Array.getElem?_eq_some_iff.1 hb9).1⟩
/-- no block of these elements changes its size -/
def SizeKept (e : TypeId) (w w' : World) : Prop := ∀ (g : Nat) (cur : Array Value), w.heap[g]? = some (.cells cur e (0, 0)) → ∃ cur', w'.heap[g]? = some (.cells cur' e (0, 0)) ∧ cur'.size = cur.size
theorem SizeKept.refl (e : TypeId) (w : World) : SizeKept e w w := fun g cur h => ⟨cur, h, rfl⟩
theorem SizeKept.trans {e : TypeId} {w w1 w2 : World} (h : SizeKept e w w1) (h' : SizeKept e w1 w2) : SizeKept e w w2 := fun g cur hc => by
  obtain ⟨c1, h1, h2⟩ := h g cur hc
  obtain ⟨c2, h3, h4⟩ := h' g c1 h1
  exact ⟨c2, h3, h4.trans h2⟩
theorem SizeKept.alloc (e : TypeId) (w : World) (o : Obj) : SizeKept e w (w.alloc o) := fun g cur h => by
  have hg := (Array.getElem?_eq_some_iff.1 h).1
  exact ⟨cur, (Below.heap_alloc w o g hg).trans h, rfl⟩
theorem SizeKept.drew (e : TypeId) (w : World) : SizeKept e w w.drew := fun g cur h => ⟨cur, h, rfl⟩
theorem SizeKept.setCell (e : TypeId) (w : World) (b i : Nat) (x : Value) : SizeKept e w (w.setCell ⟨b, i, none⟩ x) := fun g cur h => by
  by_cases hgb : g = b
  · subst hgb
    exact ⟨_, heap_setCell_same w g i _ _ x h, by simp⟩
  · exact ⟨cur, ((Fr.setCell w ⟨b, i, none⟩ x).block g (Array.getElem?_eq_some_iff.1 h).1 (fun e => hgb e)).trans h, rfl⟩
/-- a row whose cells are not told -/
def LRow (w : World) (B : Nat) (e : TypeId) (v : Value) (n : Nat) : Prop := ∃ xs, w.ownsRow B e 1 v n xs
theorem LRow.kept {w w' : World} {B n : Nat} {e : TypeId} {v : Value} (h : LRow w B e v n) (hk : SizeKept e w w') : LRow w' B e v n := by
  obtain ⟨xs, h1, ⟨rfl, h0⟩ | ⟨g, cap, cur, rfl, hb, hg, hnc, hcm, hcs, htake⟩⟩ := h
  · subst h0; exact ⟨[], World.ownsRow_nil _ _ _ _⟩
  · obtain ⟨cur', h3, h4⟩ := hk g cur hg
    exact ⟨cur'.toList.take n, by rw [List.length_take, Array.length_toList, h4, hcs]; omega, .inr ⟨g, cap, cur', rfl, hb, h3, hnc, hcm, by rw [h4, hcs], by rw [Nat.mul_one]⟩⟩
theorem append_size {P : Program} {w : World} {base : Nat} (t ty e : TypeId) (i : TypeInfo) (z : Value) (ht : P.underlying t = some (.slice e)) (hi : P.info? e = some i) (hz : i.zero = some z)
    {v : Value} {n : Nat} {xs : List Value} (hown : w.ownsRow base e i.size v n xs)
    (a : Addr) (m c : Nat) (news : List Value) (hl : news.length = m * i.size) (hnews : ∀ j u, news[j]? = some u → w.cell? (a.add j) = some u) (h1 : ∀ u ∈ news, u.oneCell' = true)
    (h63 : n + m ≤ maxLen) (hbytes : (n + m) * i.bytes ≤ 140737488355328) {v' : Value} {w' : World} (hr : (Builtin.append_ #[t, t] ty #[v, .slice (some a) m c]).run P w = .ok v' w') : SizeKept e w w' := by
  have h63' : n + m ≤ 9223372036854775807 := by unfold maxLen at h63; omega
  rcases hown.2 with ⟨rfl, rfl⟩ | ⟨g0, cap, cur, rfl, hbg, hgg, hnc, hcm, hcs, htake⟩
  · by_cases hm : m = 0
    · subst hm
      have hr2 : (Builtin.append_ #[t, t] ty #[.slice none 0 0, .slice (some a) 0 c]).run P w = .ok (.slice none 0 0) w := by
        have hf := run_firstCells_some (P := P) w i.size 0 a 0 c news (by simpa using hl) hnews
        simp [Builtin.append_, run_underlying ht, sizeOf, typeInfo, hi, Builtin.lenOf, hf, Result.andThen]
      rw [hr] at hr2
      simp only [Result.ok.injEq] at hr2
      rw [hr2.2]
      exact SizeKept.refl _ _
    · have hr2 := run_append_nil (P := P) w t ty e i z ht hi hz a m c news hl hnews (by omega) (by omega) (by have hb := hbytes; simp only [Nat.zero_add] at hb; omega)
      rw [hr] at hr2
      simp only [Result.ok.injEq] at hr2
      rw [hr2.2]
      exact (SizeKept.drew e w).trans (SizeKept.alloc e _ _)
  · by_cases hroom : n + m ≤ cap
    · have hfit : n * i.size + news.length ≤ cur.size := by rw [hl, hcs, ← Nat.add_mul]; exact Nat.mul_le_mul_right _ hroom
      have hr2 := run_append_room (P := P) w t ty e i ht hi g0 n cap cur hgg a m c news hl hnews h1 hroom hfit
      rw [hr] at hr2
      simp only [Result.ok.injEq] at hr2
      rw [hr2.2]
      intro g cur2 hg2
      by_cases hgg0 : g = g0
      · subst hgg0
        rw [hgg] at hg2
        simp only [Option.some.injEq, Obj.cells.injEq] at hg2
        refine ⟨_, setRow_heap w g cur _ _ _ hgg, ?_⟩
        rw [← hg2.1]
        simp
        omega
      · exact ⟨cur2, (setRow_other w g0 g _ hgg0).trans hg2, rfl⟩
    · have hr2 := run_append_grow (P := P) w t ty e i z ht hi hz ⟨g0, 0, none⟩ n cap xs hown.1 (hown.cells (g := g0) rfl) a m c news hl hnews (by omega) (by omega) (growslice_fits (by omega) hbytes)
      rw [hr] at hr2
      simp only [Result.ok.injEq] at hr2
      rw [hr2.2]
      exact (SizeKept.drew e w).trans (SizeKept.alloc e _ _)
section
variable {P : Program} {w : World}
/-- what append hands back lies where the slice lay, or in a new block -/
theorem append_keeps (base : Nat) (t ty e : TypeId) (i : TypeInfo) (z : Value) (size bytes : Nat) (ht : P.underlying t = some (.slice e)) (hi : P.info? e = some i) (hz : i.zero = some z)
    (hsize : i.size = size) (hby : i.bytes = bytes) (hzs : z.cells.size = size) (hsz : 0 < size)
    (v : Value) (n : Nat) (xs : List Value) (hown : w.ownsRow base e size v n xs)
    (a : Addr) (m c : Nat) (news : List Value) (hl : news.length = m * size) (hnews : ∀ j u, news[j]? = some u → w.cell? (a.add j) = some u) (h1 : ∀ u ∈ news, u.oneCell' = true)
    (h63 : n + m ≤ maxLen) (hbytes : (n + m) * bytes ≤ 140737488355328) (hbase : base ≤ w.heap.size) :
    ∃ v' w', (Builtin.append_ #[t, t] ty #[v, .slice (some a) m c]).run P w = .ok v' w' ∧ w'.ownsRow base e size v' (n + m) (xs ++ news) ∧ w.grownBy w' v.ownBlock ∧
      (∀ g, v'.ownBlock = some g → v.ownBlock = some g ∨ w.heap.size ≤ g) ∧ SizeKept e w w' := by
  obtain ⟨v', w', hr, h2, h3, h4⟩ := run_append_own (P := P) w base t ty e i z size bytes ht hi hz hsize hby hzs hsz v n xs hown a m c news hl hnews h1 h63 hbytes hbase
  refine ⟨v', w', hr, h2, h3, fun g hg => ?_, ?_⟩
  case refine_2 => exact append_size t ty e i z ht hi hz (by rw [hsize]; exact hown) a m c news (by rw [hsize]; exact hl) hnews h1 h63 (by rw [hby]; exact hbytes) hr
  have h63' : n + m ≤ 9223372036854775807 := by unfold maxLen at h63; omega
  subst hsize
  subst hby
  rcases hown.2 with ⟨rfl, rfl⟩ | ⟨g0, cap, cur, rfl, hbg, hgg, hnc, hcm, hcs, htake⟩
  · by_cases hm : m = 0
    · rw [h4.2 ⟨rfl, hm⟩] at hg; cases hg
    · have hr2 := run_append_nil (P := P) w t ty e i z ht hi hz a m c news hl hnews (by omega) (by omega) (by have hb := hbytes; simp only [Nat.zero_add] at hb; omega)
      rw [hr] at hr2
      simp only [Result.ok.injEq] at hr2
      rw [hr2.1] at hg
      cases hg
      exact .inr (Nat.le_refl _)
  · by_cases hroom : n + m ≤ cap
    · have hr2 := run_append_room (P := P) w t ty e i ht hi g0 n cap cur hgg a m c news hl hnews h1 hroom (by rw [hl, hcs, ← Nat.add_mul]; exact Nat.mul_le_mul_right _ hroom)
      rw [hr] at hr2
      simp only [Result.ok.injEq] at hr2
      rw [hr2.1] at hg
      cases hg
      exact .inl rfl
    · have hr2 := run_append_grow (P := P) w t ty e i z ht hi hz ⟨g0, 0, none⟩ n cap xs hown.1 (hown.cells (g := g0) rfl) a m c news hl hnews (by omega) (by omega) (growslice_fits (by omega) hbytes)
      rw [hr] at hr2
      simp only [Result.ok.injEq] at hr2
      rw [hr2.1] at hg
      cases hg
      exact .inr (Nat.le_refl _)
variable {ops : Array Oper} {rest : List Oper} {o : Oper} {a : Act} {Q : Exit → Act → World → Prop}
theorem wpl_append3 (hgd : o.guard = none) (s x : Operand) (t : TypeId) (ho : o.op = .call { callee := .builtin .append, args := #[s, x], argTypes := #[t, t] })
    (base : Nat) (e : TypeId) (i : TypeInfo) (z : Value) (size bytes : Nat) (ht : P.underlying t = some (.slice e)) (hi : P.info? e = some i) (hz : i.zero = some z)
    (hsize : i.size = size) (hby : i.bytes = bytes) (hzs : z.cells.size = size) (hsz : 0 < size)
    (v : Value) (n : Nat) (xs : List Value) (hs : a.eval s = v) (hown : w.ownsRow base e size v n xs)
    (xv : Value) (m : Nat) (news : List Value) (hx : a.eval x = xv) (hrd : RdC w size xv m news) (h1 : ∀ u ∈ news, u.oneCell' = true)
    (h63 : n + m ≤ maxLen) (hbytes : (n + m) * bytes ≤ 140737488355328) (hbase : base ≤ w.heap.size)
    (h : ∀ v' w', w'.ownsRow base e size v' (n + m) (xs ++ news) → w.grownBy w' v.ownBlock → (∀ g, v'.ownBlock = some g → v.ownBlock = some g ∨ w.heap.size ≤ g) → SizeKept e w w' → wpList P ops Q rest (a.put o.dst v') w') : wpList P ops Q (o :: rest) a w := by
  obtain ⟨hl, ad, cap, hxv, hmc, hcm, hnil, hcells⟩ := hrd
  cases ad with
  | some ad =>
    refine wpList_plain hgd fun K hK => ?_
    obtain ⟨v', w', hr, h2, h3, h4, h5⟩ := append_keeps (P := P) (w := w) base t o.type e i z size bytes ht hi hz hsize hby hzs hsz v n xs hown ad m cap news hl (hcells ad rfl) h1 h63 hbytes hbase
    have hg := h v' w' h2 h3 h4 h5
    have he : a.eval x = .slice (some ad) m cap := hx.trans hxv
    unfold Oper.wp
    simp [execOp, ho, resolve, invoke, builtin, hs, he, hr, Result.andThen]
    exact hK _ _ hg
  | none =>
    obtain ⟨rfl, rfl⟩ := hnil rfl
    have hn0 : news = [] := by simpa using hl
    subst hn0
    refine wpList_plain hgd fun K hK => ?_
    have hrun := run_append_owned_none (P := P) (w := w) (base := base) t o.type e i size ht hi v n xs hown
    have hg := h v w (by simpa using hown) ⟨rfl, rfl, rfl, Nat.le_refl _, fun _ _ _ => rfl⟩ (fun g hg => .inl hg) (SizeKept.refl _ _)
    have he : a.eval x = .slice none 0 0 := hx.trans hxv
    unfold Oper.wp
    simp [execOp, ho, resolve, invoke, builtin, hs, he, hrun, Result.andThen]
    exact hK _ _ hg
end
end Go.Proofs.Ytgomilodeaafdaa
namespace Go.Proofs.Ytgomilodeaafdaa
open Go.RowKit
theorem madeCells_oneD (v : Value) (n : Nat) : madeCells #[v] n = (List.replicate n v).toArray := by
  unfold madeCells
  apply Array.ext
  · simp
  · intro i h1 h2
    simp [Nat.mod_one]
def many70 : Array Value := (List.replicate 70 (.string ⟨#[]⟩)).toArray
theorem mk_70 (w : World) : (Instr.makeSlice 39 (.int .i64 70) (.int .i64 70)).run Try.prog w = .ok (.slice (some ⟨w.heap.size, 0, none⟩) 70 70) (w.alloc (.cells many70 9)) := by
  obtain ⟨i0, hi, hz0, hz1, hz2⟩ := info_parts info_str
  have h := run_make (P := Try.prog) w 39 9 i0 (.string ⟨#[]⟩) Try.underlying39 hi hz0 .i64 .i64 70 70 (by omega) (Int.le_refl _) (by rw [hz2]; decide) (by omega)
  have e : (Value.string ⟨#[]⟩).cells = #[.string ⟨#[]⟩] := rfl
  rw [h, hz1, Nat.mul_one, e, madeCells_oneD]
  rfl
/-- what a spoiler turns -/
def SpF (v : Value) (w : World) (e : Ending) (w' : World) : Prop := (∃ u, e = .returned u) ∧ Fr (fun i => v.ownBlock = some i) w w' ∧ SizeKept 9 w w'
theorem rd_one (w : World) (x : ByteArray) : RdC (w.alloc (.cells #[.string x] 9)) 1 (.slice (some ⟨w.heap.size, 0, none⟩) 1 1) 1 [.string x] :=
  RdC.of_owns (World.ownsRow_lit (base := 0) w _ 1 (Nat.zero_le _) (by decide) rfl)
theorem LRow.form {w : World} {B n : Nat} {e : TypeId} {v : Value} (h : LRow w B e v n) (hn : 0 < n) : ∃ g c, v = .slice (some ⟨g, 0, none⟩) n c ∧ ∀ i, i < n → (∃ q, w.cell? ⟨g, i, none⟩ = some q) ∧ w.frozen? ⟨g, i, none⟩ = false ∧ g < w.heap.size := by
  obtain ⟨xs, h1, ⟨rfl, h0⟩ | ⟨g, cap, cur, rfl, hb, hg, hnc, hcm, hcs, htake⟩⟩ := h
  · omega
  · exact ⟨g, cap, rfl, fun i hi => ⟨⟨cur[i]'(by omega), by rw [cell_of_blk hg]; exact Array.getElem?_eq_getElem _⟩, free_of_blk hg _, (Array.getElem?_eq_some_iff.1 hg).1⟩⟩
theorem LRow.slice {w : World} {B n : Nat} {e : TypeId} {v : Value} (h : LRow w B e v n) : ∃ a c, v = .slice a n c := by obtain ⟨xs, h⟩ := h; exact ow_sliceN h
theorem one_any {w : World} {B n : Nat} {e : TypeId} {v : Value} (h : LRow w B e v n) : ∃ xs, w.ownsRow B e 1 v n xs := h
set_option maxRecDepth 100000 in
set_option maxHeartbeats 4000000 in
theorem spoilD_any (w : World) (B : Nat) (v : Value) (n : Nat) (h : LRow w B 9 v n) (hn : n * 16 ≤ 140737488351232) (hB : B ≤ w.heap.size) :
    Calls Try.prog 150 #[v] w (SpF v w) := by
  obtain ⟨i0, hi, hz0, hz1, hz2⟩ := info_parts info_str
  have HI := Lib.hid hi
  have HZ0 := Lib.hid hz0
  have HZ1 := Lib.hid hz1
  have HZ2 := Lib.hid hz2
  have hmk := mk_70
  have H := Lib.hid h
  obtain ⟨a, c, rfl⟩ := h.slice
  clear h hi hz0 hz1 hz2
  go_enter Try.func150, Try.ntmps150
  go_wp2_with fail
  go_loopw [8] (fun i wr => ∃ j : Nat, i = .int .i64 j ∧ j ≤ n ∧ Hid (LRow wr B 9 (.slice a n c) n) ∧ Hid (SizeKept 9 w wr) ∧ Hid (Fr (fun i => (Value.slice a n c).ownBlock = some i) w wr)) (fun i _ => n - (intOf i).toNat)
  case atStart => exact ⟨0, rfl, by omega, H.out, SizeKept.refl _ _, Fr.refl _ _⟩
  case round =>
    obtain ⟨j, rfl, hj, HO, HS, HF⟩ := hrel
    obtain ⟨wo, rfl⟩ : ∃ x, x = wr := ⟨_, rfl⟩
    by_cases hlt : j < n
    · obtain ⟨g, c', he, hcells⟩ := HO.out.form (by omega)
      cases he
      obtain ⟨⟨q0, y0⟩, yf0, hgl⟩ := hcells j hlt
      have hc0 : (0 : Int) ≤ (j : Int) := by omega
      have hc1 : (j : Int) < (n : Int) := by omega
      have HS2 : Hid (SizeKept 9 wo (wo.setCell ⟨g, j, none⟩ (.string ⟨#[126]⟩))) := SizeKept.setCell _ _ _ _ _
      have HF2 : Hid (Fr (fun i => (Value.slice (some ⟨g, 0, none⟩) n c).ownBlock = some i) w (wo.setCell ⟨g, j, none⟩ (.string ⟨#[126]⟩))) := HF.out.wide (Fr.setCell wo ⟨g, j, none⟩ _) (fun i hi => .inl (by rw [show i = g from hi]; rfl))
      clear hcells
      go_wp2_with fail
      go_roundw
      case rel => exact ⟨j + 1, by go_num, by omega, HO.out.kept HS2.out, HS.out.trans HS2.out, HF2.out⟩
      case measure => simp [intOf]; omega
    · obtain rfl : j = n := by omega
      go_wp2_with fail
      go_loopw [3, 16] (fun v2 i wr => ∃ (j2 m : Nat), i = .int .i64 j2 ∧ j2 ≤ 20 ∧ m = j + j2 ∧ Hid (LRow wr B 9 v2 m) ∧ Hid (LRow wr B 9 (.slice a j c) j) ∧ Hid (SizeKept 9 w wr) ∧ Hid (∀ g, v2.ownBlock = some g → (Value.slice a j c).ownBlock = some g ∨ w.heap.size ≤ g) ∧ Hid (Fr (fun i => (Value.slice a j c).ownBlock = some i) w wr)) (fun _ i _ => 20 - (intOf i).toNat)
      case atStart => exact ⟨0, j, rfl, by omega, rfl, HO.out, HO.out, HS.out, fun g hg => .inl hg, HF.out⟩
      case round =>
        obtain ⟨j2, m, rfl, hj2, hm, HO2, HL2, HS2, HG2, HF2⟩ := hrel
        obtain ⟨wq, rfl⟩ : ∃ x, x = wr := ⟨_, rfl⟩
        obtain ⟨vv, hvv⟩ : ∃ v, v = u3 := ⟨_, rfl⟩
        subst hvv
        have hmb : m ≤ j + 20 := by omega
        have HM := Lib.hid hm
        clear hm
        obtain ⟨a2, c2, rfl⟩ := HO2.out.slice
        have hbq : B ≤ wq.heap.size := Nat.le_trans hB HF2.out.size
        by_cases hlt2 : j2 < 20
        · have g1 : decide ((j2 : Int) < 20) = true := by rw [decide_eq_true_eq]; omega
          have hlt3 : (j2 : Int) < 20 := by omega
          obtain ⟨xs, hxs⟩ := HO2.out
          have HXS := Lib.hid hxs
          clear hxs
          go_wp2_with (at_builtin; refine wpl_append3 rfl (.tmp 18) (.tmp 19) 39 rfl B 9 i0 (.string ⟨#[]⟩) 1 16 Try.underlying39 HI.out HZ0.out HZ1.out HZ2.out rfl (by decide) _ m xs rfl (HXS.out.alloc _) _ 1 [.string ⟨#[126]⟩] rfl (rd_one _ _) (by simp [Value.oneCell']) (by unfold maxLen; omega) (by omega) (by simp; omega) ?_; intro v4 w4 hown hgrow hat hsz; have HO4 : Hid (LRow w4 B 9 v4 (m + 1)) := ⟨_, hown⟩; have HS4 := Lib.hid ((SizeKept.alloc 9 wq (.cells #[.string ⟨#[126]⟩] 9)).trans hsz); have HAT := Lib.hid hat; have HF4 := Lib.hid (HF2.out.wide (T := fun k => (Value.slice a2 m c2).ownBlock = some k) ((Fr.alloc _ wq _).wide (Fr.of_grownBy hgrow) (fun i hi => .inl hi)) (fun i hi => HG2.out i hi)); clear hown hgrow hat hsz)
          go_roundw
          case rel => exact ⟨j2 + 1, m + 1, by go_num, by omega, by have := HM.out; omega, HO4.out, HL2.out.kept HS4.out, HS2.out.trans HS4.out, fun g hg => by
            rcases HAT.out g hg with h6 | h6
            · have h7 : (Value.slice a2 m c2).ownBlock = some g := h6
              exact HG2.out g h7
            · exact .inr (by have := HF2.out.size; simp at h6; omega), HF4.out⟩
          case measure => simp [intOf]; omega
        · have hj20 : j2 = 20 := by omega
          subst hj20
          go_wp2_with fail
          have HB5 : Hid (wq.heap.size < (wq.alloc (.cells many70 9)).heap.size) := by show _ < _; simp
          have HM5 : Hid ((wq.alloc (.cells many70 9)).ownsRow wq.heap.size 9 1 (.slice (some ⟨wq.heap.size, 0, none⟩) 70 70) 70 ((List.replicate 70 (⟨#[]⟩ : ByteArray)).map .string)) := by
            rw [List.map_replicate]
            exact World.ownsRow_lit (base := wq.heap.size) wq many70 70 (Nat.le_refl _) (by decide) (by simp [many70])
          have HS5 : Hid (SizeKept 9 wq (wq.alloc (.cells many70 9))) := SizeKept.alloc _ _ _
          have HF5 : Hid (Fr (fun _ => False) wq (wq.alloc (.cells many70 9))) := Fr.alloc _ _ _
          obtain ⟨W5, hW5⟩ : ∃ W, wq.alloc (.cells many70 9) = W := ⟨_, rfl⟩
          rw [hW5] at HM5 HS5 HF5 HB5
          obtain ⟨g5, hg5⟩ : ∃ g, wq.heap.size = g := ⟨_, rfl⟩
          rw [hg5] at HM5 HB5
          have HG5 := Lib.hid hg5
          rw [hW5, hg5]
          clear hW5 hg5 hmk
          go_loopw [25] (fun i wr => ∃ (j3 : Nat) (Z : List ByteArray), i = .int .i64 j3 ∧ j3 ≤ 70 ∧ Hid (Z.length = 70) ∧ Hid (wr.ownsRow g5 9 1 (.slice (some ⟨g5, 0, none⟩) 70 70) 70 (Z.map .string)) ∧ Hid (SizeKept 9 W5 wr) ∧ Hid (Fr (fun i => i = g5) W5 wr)) (fun i _ => 70 - (intOf i).toNat)
          case atStart => exact ⟨0, List.replicate 70 (⟨#[]⟩ : ByteArray), rfl, by omega, by show _ = _; simp, HM5.out, SizeKept.refl _ _, Fr.refl _ _⟩
          case round =>
            obtain ⟨j3, Z, rfl, hj3, HZL, HOZ, HSZ, HFZ⟩ := hrel
            obtain ⟨wz, rfl⟩ : ∃ x, x = wr := ⟨_, rfl⟩
            by_cases hlt5 : j3 < 70
            · have g1 : decide ((j3 : Int) < 70) = true := by rw [decide_eq_true_eq]; omega
              have hc0 : (0 : Int) ≤ (j3 : Int) := by omega
              have hc1 : (j3 : Int) < 70 := by omega
              obtain ⟨y0, yf0, hgl⟩ := own_cell1 HOZ.out hlt5
              rw [List.getElem?_map, List.getElem?_eq_getElem (show j3 < Z.length by rw [HZL.out]; exact hlt5)] at y0
              obtain ⟨zz, hzz⟩ : ∃ z, Z[j3]'(by rw [HZL.out]; exact hlt5) = z := ⟨_, rfl⟩
              rw [hzz] at y0
              dsimp only [Option.map_some] at y0
              have HS1 := Lib.hid (own_put1 HOZ.out hlt5 (.string ⟨#[126]⟩))
              rw [← List.map_set] at HS1
              have HS2 : Hid (SizeKept 9 W5 (wz.setCell ⟨g5, j3, none⟩ (.string ⟨#[126]⟩))) := HSZ.out.trans (SizeKept.setCell _ _ _ _ _)
              have HF2' : Hid (Fr (fun i => i = g5) W5 (wz.setCell ⟨g5, j3, none⟩ (.string ⟨#[126]⟩))) := HFZ.out.wide (Fr.setCell wz ⟨g5, j3, none⟩ _) (fun i hi => .inl hi)
              clear hzz
              go_wp2_with fail
              go_roundw
              case rel => exact ⟨j3 + 1, Z.set j3 ⟨#[126]⟩, by go_num, by omega, by show _ = _; rw [List.length_set]; exact HZL.out, HS1.out, HS2.out, HF2'.out⟩
              case measure => simp [intOf]; omega
            · have hj70 : j3 = 70 := by omega
              subst hj70
              have HSW : Hid (SizeKept 9 w wz) := (HS2.out.trans HS5.out).trans HSZ.out
              have HFW : Hid (Fr (fun i => (Value.slice a j c).ownBlock = some i) w wz) := (HF2.out.wide HF5.out (fun _ h => h.elim)).wide HFZ.out (fun i hi => .inr (by rw [show i = g5 from hi, ← HG5.out]; exact HF2.out.size))
              have HLW : Hid (LRow wz B 9 (.slice a j c) j) := (HL2.out.kept HS5.out).kept HSZ.out
              obtain ⟨xs, hxs⟩ := HLW.out
              have HXS := Lib.hid hxs
              have hbz : B ≤ wz.heap.size := Nat.le_trans hB HFW.out.size
              clear hxs
              go_wp2_with (at_builtin; refine wpl_append3 rfl (.tmp 32) (.tmp 33) 39 rfl B 9 i0 (.string ⟨#[]⟩) 1 16 Try.underlying39 HI.out HZ0.out HZ1.out HZ2.out rfl (by decide) _ j xs rfl HXS.out _ 70 (Z.map .string) rfl (RdC.of_owns HOZ.out) (one_strs Z) (by unfold maxLen; omega) (by omega) hbz ?_; intro v6 w6 hown hgrow hat hsz; obtain ⟨g6, c6, rfl, hcells⟩ := LRow.form (e := 9) (w := w6) (B := B) (n := j + 70) (v := v6) ⟨_, hown⟩ (by omega); obtain ⟨⟨q0, y0⟩, yf0, hgl⟩ := hcells 0 (by omega); have HAT := Lib.hid hat; have HSS := Lib.hid (HSW.out.trans hsz); have HFF := Lib.hid (HFW.out.wide (Fr.of_grownBy hgrow) (fun i hi => .inl hi)); clear hcells hown hgrow hat hsz)
              have hj1 : (0 : Int) < (j : Int) + 70 := by omega
              have HGG : Hid ((Value.slice a j c).ownBlock = some g6 ∨ w.heap.size ≤ g6) := by
                rcases HAT.out g6 rfl with h6 | h6
                · exact .inl h6
                · exact .inr (Nat.le_trans HFW.out.size h6)
              have g7 : decide (0 < j + 70) = true := by rw [decide_eq_true_eq]; omega
              go_wp2_with fail
              go_end0
              exact ⟨⟨_, rfl⟩, HFF.out.wide (Fr.setCell w6 ⟨g6, 0, none⟩ _) (fun i hi => by rw [show i = g6 from hi]; exact HGG.out), HSS.out.trans (SizeKept.setCell _ _ _ _ _)⟩
end Go.Proofs.Ytgomilodeaafdaa
namespace Go.Proofs.Ytgomilodeaafdaa
open Go.RowKit
set_option maxRecDepth 100000 in
set_option maxHeartbeats 1000000 in
theorem sameD_any (w : World) (v1 v2 : Value) (l1 l2 : List ByteArray) (h1 : RdC w 1 v1 l1.length (l1.map .string)) (h2 : RdC w 1 v2 l2.length (l2.map .string)) :
    Calls Try.prog 149 #[v1, v2] w fun e w' => e = .returned (.bool (decide (l1 = l2))) ∧ ∃ m, w' = w.drewN m := by
  have hm1 := h1.len
  have hm2 := h2.len
  unfold maxLen at hm1 hm2
  have H1 := Lib.hid h1
  have H2 := Lib.hid h2
  obtain ⟨-, a1, c1, rfl, -⟩ := h1
  obtain ⟨-, a2, c2, rfl, -⟩ := h2
  by_cases hl : l1.length = l2.length
  case neg =>
    have hne : decide (l1 = l2) = false := decide_eq_false (fun e => hl (by rw [e]))
    have g : ((l1.length : Int) != l2.length) = true := by rw [bne_iff_ne]; omega
    rw [hne]
    clear hne hl
    go_enter Try.func149, Try.ntmps149
    go_wp2
    go_ret
    exact ⟨rfl, 0, rfl⟩
  case pos =>
    have g : ((l1.length : Int) != l2.length) = false := by rw [bne_eq_false_iff_eq]; omega
    have HL := Lib.hid hl
    clear hl
    go_enter Try.func149, Try.ntmps149
    go_wp2
    go_loopw [13] (fun i wr => ∃ k m : Nat, i = .int .i64 k ∧ k ≤ l1.length ∧ Hid (wr = w.drewN m) ∧ Hid (l1.take k = l2.take k)) (fun i _ => l1.length - (intOf i).toNat)
    case atStart => exact ⟨0, 0, rfl, by omega, (show w = w.drewN 0 from rfl), (show _ = _ from rfl)⟩
    case round =>
      obtain ⟨k, m, rfl, hk, HW, HE⟩ := hrel
      obtain ⟨wo, rfl⟩ : ∃ wo, wo = wr := ⟨_, rfl⟩
      by_cases hlt : k < l1.length
      · have hlt2 : k < l2.length := by have := HL.out; omega
        have hb1 : (k : Int) < (l1.length : Int) := by omega
        have hb2 : (k : Int) < (l2.length : Int) := by omega
        have hb0 : (0 : Int) ≤ (k : Int) := by omega
        obtain ⟨g1, o1, rfl, c1⟩ := texts_at H1.out k hlt
        obtain ⟨g2, o2, rfl, c2⟩ := texts_at H2.out k hlt2
        have c1' : wo.cell? ⟨g1, o1 + k, none⟩ = some (.string l1[k]) := by rw [HW.out]; exact c1
        have c2' : wo.cell? ⟨g2, o2 + k, none⟩ = some (.string l2[k]) := by rw [HW.out]; exact c2
        obtain ⟨x, hx⟩ : ∃ x, l1[k] = x := ⟨_, rfl⟩
        obtain ⟨y, hy⟩ : ∃ y, l2[k] = y := ⟨_, rfl⟩
        rw [hx] at c1'
        rw [hy] at c2'
        have HX := Lib.hid hx
        have HY := Lib.hid hy
        clear c1 c2 hx hy
        by_cases hxy : x = y
        · have hq : (x.toList == y.toList) = true := by rw [str_beq]; simpa using hxy
          have hq2 : (x.toList != y.toList) = false := by simp [bne, hq]
          have hts : Hid (l1.take (k + 1) = l2.take (k + 1)) := by
            show _ = _
            rw [List.take_succ_eq_append_getElem hlt, List.take_succ_eq_append_getElem hlt2, HE.out, HX.out, HY.out, hxy]
          clear hxy
          go_upto_region 6 with (fail)
          go_quiet (fail)
          go_wp2
          go_roundw
          case rel => exact ⟨k + 1, m + nq, by go_num, by omega, (show wo.drewN nq = _ by rw [HW.out]; exact drewN_drewN _ _ _), hts⟩
          case measure => simp [intOf]; omega
        · have hq : (x.toList == y.toList) = false := by rw [str_beq]; simpa using hxy
          have hq2 : (x.toList != y.toList) = true := by simp [bne, hq]
          have hne : decide (l1 = l2) = false := decide_eq_false (fun e => hxy (by rw [← HX.out, ← HY.out]; subst e; rfl))
          have HNE := Lib.hid hne
          clear hne hxy
          go_upto_region 6 with (fail)
          go_quiet (fail)
          go_wp2
          go_ret
          exact ⟨by rw [HNE.out]; rfl, m + nq, by rw [HW.out]; exact drewN_drewN _ _ _⟩
      · obtain rfl : k = l1.length := by omega
        have heq : decide (l1 = l2) = true := decide_eq_true (by have := HE.out; rwa [List.take_length, HL.out, List.take_length] at this)
        have HNE := Lib.hid heq
        clear heq
        go_wp2
        go_ret
        exact ⟨by rw [HNE.out]; rfl, m, HW.out⟩
end Go.Proofs.Ytgomilodeaafdaa

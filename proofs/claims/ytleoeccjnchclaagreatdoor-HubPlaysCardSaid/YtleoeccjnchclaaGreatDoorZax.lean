/- reply.Bulks: an array of bulks; append at a step of a region that draws its order, and where what it hands back lies; parts of an own row; pantryref16.Bulk; pantryref16.Bulks: an array of bulks. No condition but sizes. -/
import Derived.Test.YtleoeccjnchclaaGreatDoorZat
import Derived.Deep.RegionLaw
import Derived.Laws.AppendOwn
import Derived.Maps.AppendAt
namespace Go.Proofs.YtleoeccjnchclaaGreatDoor
open Go.RowKit
/-- append, at a step of a region that draws its order, from whatever slice -/
theorem step_append {P : Program} {w : World} {ops : Array Oper} {o : Oper} {a : Act} {K : Act → World → Prop} {Q : Exit → Act → World → Prop} {E : Prop} (hgd : o.guard = none) (s x : Operand) (t : TypeId)
    (ho : o.op = .call { callee := .builtin .append, args := #[s, x], argTypes := #[t, t] })
    (base : Nat) (e : TypeId) (i : TypeInfo) (z : Value) (size bytes : Nat) (ht : P.underlying t = some (.slice e)) (hi : P.info? e = some i) (hz : i.zero = some z)
    (hsize : i.size = size) (hby : i.bytes = bytes) (hzs : z.cells.size = size) (hsz : 0 < size)
    (v : Value) (n : Nat) (xs : List Value) (hs : a.eval s = v) (hown : w.ownsRow base e size v n xs)
    (xv : Value) (m : Nat) (news : List Value) (hx : a.eval x = xv) (hrd : RdC w size xv m news) (h1 : ∀ u ∈ news, u.oneCell' = true)
    (h63 : n + m ≤ maxLen) (hbytes : (n + m) * bytes ≤ 140737488355328) (hbase : base ≤ w.heap.size)
    (h : ∀ v' w', w'.ownsRow base e size v' (n + m) (xs ++ news) → w.grownBy w' v.ownBlock → K (a.put o.dst v') w') :
    if Region.wanted o (yielded ops a.tmps) = true then Oper.wp P o a w K Q else E := by
  have hw : Region.wanted o (yielded ops a.tmps) = true := by simp [Region.wanted, hgd]
  rw [if_pos hw]
  obtain ⟨hl, ad, cap, hxv, hmc, hcm, hnil, hcells⟩ := hrd
  cases ad with
  | some ad => exact wp_append_own w s x t ho base e i z size bytes ht hi hz hsize hby hzs hsz v n xs hs hown ad m cap news (hx.trans hxv) hl (hcells ad rfl) h1 h63 hbytes hbase fun v' w' h2 h3 _ => h v' w' h2 h3
  | none =>
    obtain ⟨rfl, rfl⟩ := hnil rfl
    have hn0 : news = [] := by simpa using hl
    subst hn0
    have hrun := run_append_owned_none (P := P) (w := w) (base := base) t o.type e i size ht hi v n xs hown
    have hg := h v w (by simpa using hown) ⟨rfl, rfl, rfl, Nat.le_refl _, fun _ _ _ => rfl⟩
    have he : a.eval x = .slice none 0 0 := hx.trans hxv
    unfold Oper.wp
    simp [execOp, ho, resolve, invoke, builtin, hs, he, hrun, Result.andThen]
    exact hg
theorem info_reply : (Tryz.prog.info? 49).map (fun i => (i.zero, i.size, i.bytes)) = some (some (.agg #[.int .i64 0, .string ⟨#[]⟩, .int .i64 0, .slice none 0 0]), 4, 56) := by kernel_rfl
/-- what stands while an array is built -/
structure Bk (w wr : World) (v : Value) (l : List ByteArray) : Prop where
  b2 : wr.heap[w.heap.size]? = some (.cells #[.int .i64 0, .string ⟨#[]⟩, .int .i64 0, .slice none 0 0] 49 (0, 0))
  b3 : wr.heap[w.heap.size + 1]? = some (.cells #[.int .i64 6, .string ⟨#[]⟩, .int .i64 0, v] 49 (0, 0))
  row : wr.ownsRow (w.heap.size + 2) 49 4 v l.length (l.flatMap bulkC)
  fr : Fr (fun _ => False) w wr
def BulksPost (w : World) (l : List ByteArray) (e : Ending) (w' : World) : Prop :=
  ∃ v, e = .returned (.agg #[.int .i64 6, .string ⟨#[]⟩, .int .i64 0, v]) ∧ w'.ownsRow w.heap.size 49 4 v l.length (l.flatMap bulkC) ∧ Fr (fun _ => False) w w'
theorem Bk.next {w wr w8 : World} {v v8 : Value} {l : List ByteArray} {x : ByteArray} (h : Bk w wr v l) (hq : ∃ w7, Fr (fun _ => False) wr w7 ∧ w7.grownBy w8 v.ownBlock) (ho : w8.ownsRow (w.heap.size + 2) 49 4 v8 (l.length + 1) (l.flatMap bulkC ++ bulkC x)) :
    Bk w (w8.setCell ⟨w.heap.size + 1, 3, none⟩ v8) v8 (l ++ [x]) := by
  obtain ⟨w7, h7, hg⟩ := hq
  have hfg := Fr.of_grownBy hg
  have hlt := ow_lt h.row
  have k2 : w8.heap[w.heap.size]? = some (.cells #[.int .i64 0, .string ⟨#[]⟩, .int .i64 0, .slice none 0 0] 49 (0, 0)) := (hfg.block _ (Nat.lt_of_lt_of_le (Array.getElem?_eq_some_iff.1 h.b2).1 h7.size) (fun e => by have := (hlt _ e).1; omega)).trans ((h7.block _ (Array.getElem?_eq_some_iff.1 h.b2).1 (fun e => e)).trans h.b2)
  have k3 : w8.heap[w.heap.size + 1]? = some (.cells #[.int .i64 6, .string ⟨#[]⟩, .int .i64 0, v] 49 (0, 0)) := (hfg.block _ (Nat.lt_of_lt_of_le (Array.getElem?_eq_some_iff.1 h.b3).1 h7.size) (fun e => by have := (hlt _ e).1; omega)).trans ((h7.block _ (Array.getElem?_eq_some_iff.1 h.b3).1 (fun e => e)).trans h.b3)
  have hs := Fr.setCell w8 ⟨w.heap.size + 1, 3, none⟩ v8
  have hl8 := ow_lt ho
  refine ⟨(hs.block _ (Array.getElem?_eq_some_iff.1 k2).1 (by dsimp only; omega)).trans k2, ?_, ?_, ?_⟩
  · rw [heap_setCell_same _ _ 3 _ _ v8 k3]
    rfl
  · rw [List.length_append, List.flatMap_append, List.flatMap_singleton]
    rcases ho with ⟨h1, h2 | ⟨g, cap, cur, rfl, hb, hgg, hnc, hcm, hcs, htake⟩⟩
    · exact ⟨h1, .inl h2⟩
    · exact ⟨h1, .inr ⟨g, cap, cur, rfl, hb, (hs.block g (Array.getElem?_eq_some_iff.1 hgg).1 (by dsimp only; omega)).trans hgg, hnc, hcm, hcs, htake⟩⟩
  · exact ((h.fr.wide h7 (fun _ h => h.elim)).wide hfg (fun i hi => .inr (by have := (hlt _ hi).1; omega))).wide hs (fun i hi => .inr (by dsimp only at hi; omega))
theorem eight {w wr w7 w8 : World} {v : Value} {l : List ByteArray} (h : Bk w wr v l) (h7 : Fr (fun _ => False) wr w7) (hg : w7.grownBy w8 v.ownBlock) : w8.heap[w.heap.size + 1]? = some (.cells #[.int .i64 6, .string ⟨#[]⟩, .int .i64 0, v] 49 (0, 0)) :=
  ((Fr.of_grownBy hg).block _ (Nat.lt_of_lt_of_le (Array.getElem?_eq_some_iff.1 h.b3).1 h7.size) (fun e => by have := (ow_lt h.row _ e).1; omega)).trans ((h7.block _ (Array.getElem?_eq_some_iff.1 h.b3).1 (fun e => e)).trans h.b3)
theorem eight_cell {w wr w7 w8 : World} {v : Value} {l : List ByteArray} (h : Bk w wr v l) (h7 : Fr (fun _ => False) wr w7) (hg : w7.grownBy w8 v.ownBlock) : w8.cell? ⟨w.heap.size + 1, 3, none⟩ = some v := cell_of_blk (eight h h7 hg) 3
theorem eight_free {w wr w7 w8 : World} {v : Value} {l : List ByteArray} (h : Bk w wr v l) (h7 : Fr (fun _ => False) wr w7) (hg : w7.grownBy w8 v.ownBlock) : w8.frozen? ⟨w.heap.size + 1, 3, none⟩ = false := free_of_blk (eight h h7 hg) 3
set_option maxRecDepth 100000 in
set_option maxHeartbeats 4000000 in
theorem bulks_any (w : World) (vt : Value) (l : List ByteArray) (h : RdC w 1 vt l.length (l.map .string)) (hl : l.length ≤ 1048576) : Calls Tryz.prog 35 #[vt] w (BulksPost w l) := by
  have H := Lib.hid h
  obtain ⟨-, a, c, rfl, -⟩ := h
  obtain ⟨i0, hi, hz0, hz1, hz2⟩ := info_parts info_reply
  have HI := Lib.hid hi
  have HZ0 := Lib.hid hz0
  have HZ1 := Lib.hid hz1
  have HZ2 := Lib.hid hz2
  clear hi hz0 hz1 hz2
  go_enter Tryz.func35, Tryz.ntmps35
  go_wp2_with fail
  have HS : Hid (Bk w ((w.alloc (.cells #[.int .i64 0, .string ⟨#[]⟩, .int .i64 0, .slice none 0 0] 49)).alloc (.cells #[.int .i64 6, .string ⟨#[]⟩, .int .i64 0, .slice none 0 0] 49)) (.slice none 0 0) (l.take 0)) := by
    have a1 := alloc_at w (.cells #[.int .i64 0, .string ⟨#[]⟩, .int .i64 0, .slice none 0 0] 49)
    have a2 := alloc_at (w.alloc (.cells #[.int .i64 0, .string ⟨#[]⟩, .int .i64 0, .slice none 0 0] 49)) (.cells #[.int .i64 6, .string ⟨#[]⟩, .int .i64 0, .slice none 0 0] 49)
    rw [World.size_alloc] at a2
    exact ⟨((Fr.alloc (fun _ => False) _ _).block _ (by simp) (fun h => h)).trans a1, a2, World.ownsRow_nil _ _ _ _, (Fr.alloc (fun _ => False) w _).thenAlloc _⟩
  go_loopw [9] (fun i wr => ∃ (k : Nat) (v : Value), i = .int .i64 k ∧ k ≤ l.length ∧ Hid (Bk w wr v (l.take k))) (fun i _ => l.length - (intOf i).toNat)
  case atStart => exact ⟨0, _, rfl, by omega, HS⟩
  case round =>
    obtain ⟨k, v, rfl, hk, HB⟩ := hrel
    obtain ⟨wo, rfl⟩ : ∃ wo, wo = wr := ⟨_, rfl⟩
    obtain ⟨va, vc, rfl⟩ := ow_sliceN HB.out.row
    by_cases hlt : k < l.length
    · obtain ⟨g, off, rfl, ct⟩ := texts_at (H.out.fr HB.out.fr (fun _ _ h => h)) k hlt
      obtain ⟨x, hx⟩ : ∃ x, l[k] = x := ⟨_, rfl⟩
      have hts : l.take (k + 1) = l.take k ++ [x] := by rw [List.take_succ_eq_append_getElem hlt, hx]
      have HTS := Lib.hid hts
      rw [hx] at ct
      have hkl : (l.take k).length = k := by rw [List.length_take]; omega
      have hrow := HB.out.row
      rw [hkl] at hrow HB
      have c3 : wo.cell? ⟨w.heap.size + 1, 3, none⟩ = some (.slice va k vc) := cell_of_blk HB.out.b3 3
      have f3 : wo.frozen? ⟨w.heap.size + 1, 3, none⟩ = false := free_of_blk HB.out.b3 3
      have HKL := Lib.hid hkl
      have HROW := Lib.hid hrow
      have HBU := fun w => Lib.hid (bulk_any x w)
      have hsz : w.heap.size + 2 ≤ wo.heap.size := by have := (Array.getElem?_eq_some_iff.1 HB.out.b3).1; omega
      have b0 : (0 : Int) ≤ (k : Int) := by omega
      have b1 : (k : Int) < (l.length : Int) := by omega
      have HR7 : Hid (((wo.alloc (.cells #[.int .i64 4, .string x, .int .i64 0, .slice none 0 0] 49)).alloc (.cells #[.int .i64 4, .string x, .int .i64 0, .slice none 0 0] 49)).drew.ownsRow (w.heap.size + 2) 49 4 (.slice va k vc) k ((l.take k).flatMap bulkC)) := by
        exact ((hrow.alloc _).alloc _)
      have HL7 : Hid (RdC ((wo.alloc (.cells #[.int .i64 4, .string x, .int .i64 0, .slice none 0 0] 49)).alloc (.cells #[.int .i64 4, .string x, .int .i64 0, .slice none 0 0] 49)).drew 4 (.slice (some ⟨wo.heap.size + 1, 0, none⟩) 1 1) 1 (bulkC x)) := by
        have h0 := World.ownsRow_lit (base := 0) (e := 49) (size := 4) (wo.alloc (.cells #[.int .i64 4, .string x, .int .i64 0, .slice none 0 0] 49)) #[.int .i64 4, .string x, .int .i64 0, .slice none 0 0] 1 (Nat.zero_le _) (by decide) rfl
        have h1 := RdC.of_owns h0
        rw [World.size_alloc] at h1
        exact h1
      have HQ7 : Hid (Fr (fun _ => False) wo ((wo.alloc (.cells #[.int .i64 4, .string x, .int .i64 0, .slice none 0 0] 49)).alloc (.cells #[.int .i64 4, .string x, .int .i64 0, .slice none 0 0] 49)).drew) := ((Fr.alloc (fun _ => False) wo _).thenAlloc _).thenDrew
      have c3a : (wo.alloc (.cells #[.int .i64 4, .string x, .int .i64 0, .slice none 0 0] 49)).drew.cell? ⟨w.heap.size + 1, 3, none⟩ = some (.slice va k vc) := ((Fr.alloc (fun _ => False) wo _).thenDrew).cell c3 (fun h => h)
      have c3b : ((wo.alloc (.cells #[.int .i64 4, .string x, .int .i64 0, .slice none 0 0] 49)).alloc (.cells #[.int .i64 4, .string x, .int .i64 0, .slice none 0 0] 49)).drew.cell? ⟨w.heap.size + 1, 3, none⟩ = some (.slice va k vc) := HQ7.out.cell c3 (fun h => h)
      clear hx hts hkl hrow HS
      go_upto_region 5 with (fail)
      go_region_law (first
        | (go_simp; go_at_call 46; ((with_reducible refine (HBU _).out.mono ?_); rintro e w7 ⟨rfl, rfl⟩; dsimp only))
        | (refine step_append (by rfl) (.tmp 14) (.tmp 17) 47 (by rfl) (w.heap.size + 2) 49 i0 (.agg #[.int .i64 0, .string ⟨#[]⟩, .int .i64 0, .slice none 0 0]) 4 56 Tryz.underlying47 HI.out HZ0.out HZ1.out HZ2.out rfl (by decide) (.slice va k vc) k _ (by rfl) HR7.out (.slice (some ⟨wo.heap.size + 1, 0, none⟩) 1 1) 1 (bulkC x) (by rfl) HL7.out (by simp [bulkC, Value.oneCell']) (by unfold maxLen; omega) (by omega) (by simp; omega) ?_; intro v8 w8 hown hgrow; have hrow8 := ow_sliceN hown; obtain ⟨a8, c8, rfl⟩ := hrow8; have HO8 := Lib.hid hown; have HG8 := Lib.hid hgrow; have HB8 := Lib.hid (HB.out.next (x := x) (v8 := .slice a8 (k + 1) c8) ⟨_, HQ7.out, by exact hgrow⟩ (by rw [HKL.out]; exact hown)); have e3 := eight_cell HB.out HQ7.out hgrow; have e4 := eight_free HB.out HQ7.out hgrow; clear hown hgrow))
      all_goals
        have HB9 : Hid (Bk w (w8.setCell ⟨w.heap.size + 1, 3, none⟩ (.slice a8 (k + 1) c8)) (.slice a8 (k + 1) c8) (l.take (k + 1))) := by show Bk _ _ _ _; rw [HTS.out]; exact HB8.out
        go_wp2_with fail
        go_roundw
        case rel => exact ⟨k + 1, _, by go_num, by omega, HB9⟩
        case measure => simp [intOf]; omega
    · obtain rfl : k = l.length := by omega
      have hb := HB.out
      simp only [List.take_length] at hb
      have x0 := cell_of_blk hb.b3 0
      have x1 := cell_of_blk hb.b3 1
      have x2 := cell_of_blk hb.b3 2
      have x3 := cell_of_blk hb.b3 3
      have y0 := cell_of_blk hb.b2 0
      have y1 := cell_of_blk hb.b2 1
      have y2 := cell_of_blk hb.b2 2
      have y3 := cell_of_blk hb.b2 3
      have z0 := free_of_blk hb.b2 0
      have z1 := free_of_blk hb.b2 1
      have z2 := free_of_blk hb.b2 2
      have z3 := free_of_blk hb.b2 3
      have HB2 := Lib.hid hb
      clear hb HB HS
      have k1 := heap_setCell_same wo w.heap.size 0 _ _ (.int .i64 6) HB2.out.b2
      have k2 := heap_setCell_same _ w.heap.size 1 _ _ (.string ⟨#[]⟩) k1
      have k3 := heap_setCell_same _ w.heap.size 2 _ _ (.int .i64 0) k2
      have k4 := heap_setCell_same _ w.heap.size 3 _ _ (.slice va l.length vc) k3
      have K4 := Lib.hid k4
      clear k1 k2 k3 k4
      go_wp2_with fail
      refine bodyPost_ret (v := .agg #[.int .i64 6, .string ⟨#[]⟩, .int .i64 0, .slice va l.length vc]) ?_ rfl ⟨.slice va l.length vc, rfl, ?_, ?_⟩
      · exact results_cell_row rfl _ _ w.heap.size 49 #[.int .i64 6, .string ⟨#[]⟩, .int .i64 0, .slice va l.length vc] (0, 0) _ rfl K4.out Tryz.underlying49 rfl (by kernel_rfl)
      · have hr := HB2.out.row
        rcases hr with ⟨h1, h2 | ⟨g, cap, cur, he, hb, hgg, hnc, hcm, hcs, htake⟩⟩
        · exact ⟨h1, .inl h2⟩
        · refine ⟨h1, .inr ⟨g, cap, cur, he, by omega, ?_, hnc, hcm, hcs, htake⟩⟩
          have f : ∀ (W : World) (i : Nat) (u : Value), W.heap[g]? = some (.cells cur 49 (0, 0)) → (W.setCell ⟨w.heap.size, i, none⟩ u).heap[g]? = some (.cells cur 49 (0, 0)) := fun W i u hW => ((Fr.setCell W ⟨w.heap.size, i, none⟩ u).block g (Array.getElem?_eq_some_iff.1 hW).1 (by dsimp only; omega)).trans hW
          exact f _ _ _ (f _ _ _ (f _ _ _ (f _ _ _ hgg)))
      · have f : ∀ (W : World) (i : Nat) (u : Value), Fr (fun _ => False) w W → Fr (fun _ => False) w (W.setCell ⟨w.heap.size, i, none⟩ u) := fun W i u hW => hW.wide (Fr.setCell W ⟨w.heap.size, i, none⟩ u) (fun i hi => .inr (by dsimp only at hi; omega))
        exact f _ _ _ (f _ _ _ (f _ _ _ (f _ _ _ HB2.out.fr)))
end Go.Proofs.YtleoeccjnchclaaGreatDoor
namespace Go.Proofs.YtleoeccjnchclaaGreatDoor
open Go.RowKit
theorem step_append2 {P : Program} {w : World} {ops : Array Oper} {o : Oper} {a : Act} {K : Act → World → Prop} {Q : Exit → Act → World → Prop} {E : Prop} (hgd : o.guard = none) (s x : Operand) (t : TypeId)
    (ho : o.op = .call { callee := .builtin .append, args := #[s, x], argTypes := #[t, t] })
    (base : Nat) (e : TypeId) (i : TypeInfo) (z : Value) (size bytes : Nat) (ht : P.underlying t = some (.slice e)) (hi : P.info? e = some i) (hz : i.zero = some z)
    (hsize : i.size = size) (hby : i.bytes = bytes) (hzs : z.cells.size = size) (hsz : 0 < size)
    (v : Value) (n : Nat) (xs : List Value) (hs : a.eval s = v) (hown : w.ownsRow base e size v n xs)
    (xv : Value) (m : Nat) (news : List Value) (hx : a.eval x = xv) (hrd : RdC w size xv m news) (h1 : ∀ u ∈ news, u.oneCell' = true)
    (h63 : n + m ≤ maxLen) (hbytes : (n + m) * bytes ≤ 140737488355328) (hbase : base ≤ w.heap.size)
    (h : ∀ v' w', w'.ownsRow base e size v' (n + m) (xs ++ news) → w.grownBy w' v.ownBlock → (∀ g, v'.ownBlock = some g → v.ownBlock = some g ∨ w.heap.size ≤ g) → K (a.put o.dst v') w') :
    if Region.wanted o (yielded ops a.tmps) = true then Oper.wp P o a w K Q else E := by
  have hw : Region.wanted o (yielded ops a.tmps) = true := by simp [Region.wanted, hgd]
  rw [if_pos hw]
  obtain ⟨hl, ad, cap, hxv, hmc, hcm, hnil, hcells⟩ := hrd
  cases ad with
  | some ad =>
    obtain ⟨v', w', hr, h2, h3, -, h4⟩ := run_append_own_at (P := P) w base t o.type e i z size bytes ht hi hz hsize hby hzs hsz v n xs hown ad m cap news hl (hcells ad rfl) h1 h63 hbytes hbase
    have hg := h v' w' h2 h3 (fun g hg => h4.elim (fun q => .inl (by rw [← q]; exact hg)) (fun q => .inr (by rw [q] at hg; cases hg; exact Nat.le_refl _)))
    have he : a.eval x = .slice (some ad) m cap := hx.trans hxv
    unfold Oper.wp
    simp [execOp, ho, resolve, invoke, builtin, hs, he, hr, Result.andThen]
    exact hg
  | none =>
    obtain ⟨rfl, rfl⟩ := hnil rfl
    have hn0 : news = [] := by simpa using hl
    subst hn0
    have hrun := run_append_owned_none (P := P) (w := w) (base := base) t o.type e i size ht hi v n xs hown
    have hg := h v w (by simpa using hown) ⟨rfl, rfl, rfl, Nat.le_refl _, fun _ _ _ => rfl⟩ (fun g hg => .inl hg)
    have he : a.eval x = .slice none 0 0 := hx.trans hxv
    unfold Oper.wp
    simp [execOp, ho, resolve, invoke, builtin, hs, he, hrun, Result.andThen]
    exact hg
theorem own_take {w : World} {B : Nat} {e : TypeId} {a : Option Addr} {n cap : Nat} {xs : List Value} (h : w.ownsRow B e 1 (.slice a n cap) n xs) (k : Nat) (hk : k ≤ n) : w.ownsRow B e 1 (.slice a k cap) k (xs.take k) := by
  obtain ⟨h1, ⟨h2, h3⟩ | ⟨g, c, cur, he, hb, hg, hnc, hcm, hcs, htake⟩⟩ := h
  · cases h2
    obtain rfl : k = 0 := by omega
    exact ⟨by simp, .inl ⟨rfl, rfl⟩⟩
  · cases he
    refine ⟨by rw [List.length_take, h1]; omega, .inr ⟨g, cap, cur, rfl, hb, hg, by omega, hcm, hcs, ?_⟩⟩
    rw [← htake, List.take_take]
    congr 1
    omega
theorem rd_drop {w : World} {g off n cap : Nat} {xs : List Value} (h : RdC w 1 (.slice (some ⟨g, off, none⟩) n cap) n xs) (k : Nat) (hk : k ≤ n) (a' : Option Addr) (ha : a' = some ⟨g, off + k, none⟩ ∨ n - k = 0 ∧ a'.isSome = true) : RdC w 1 (.slice a' (n - k) (cap - k)) (n - k) (xs.drop k) := by
  obtain ⟨h1, a, c, he, h2, h3, h4, h5⟩ := h
  cases he
  refine ⟨by rw [List.length_drop, h1]; omega, _, _, rfl, by omega, by omega, ?_, fun ad had j u hu => ?_⟩
  · intro e; subst e; rcases ha with ha | ⟨_, ha⟩ <;> cases ha
  · rw [List.getElem?_drop] at hu
    have hj : k + j < n := by have := (List.getElem?_eq_some_iff.1 hu).1; omega
    rcases ha with ha | ⟨h0, _⟩
    · rw [ha] at had
      cases had
      have := h5 _ rfl (k + j) u hu
      rw [Addr.add_lit] at this ⊢
      rw [Nat.add_assoc]
      exact this
    · omega
theorem info_int25 : (Tryz.prog.info? 3).map (fun i => (i.zero, i.size, i.bytes)) = some (some (.int .i64 0), 1, 8) := by kernel_rfl
end Go.Proofs.YtleoeccjnchclaaGreatDoor
namespace Go.Proofs.YtleoeccjnchclaaGreatDoor
open Go.RowKit
theorem bulk16_any (s : ByteArray) (w : World) : Calls Tryz.prog 43 #[.string s] w fun e w' => e = .returned (.agg #[.int .i64 4, .string s, .int .i64 0, .slice none 0 0]) ∧ w' = w.alloc (.cells #[.int .i64 4, .string s, .int .i64 0, .slice none 0 0] 49) := by
  go_enter Tryz.func43, Tryz.ntmps43
  go_wp2
  refine bodyPost_ret (v := .agg #[.int .i64 4, .string s, .int .i64 0, .slice none 0 0]) ?_ rfl ⟨rfl, rfl⟩
  simp [results, Tryz.results43, asAddr, go_sem]
end Go.Proofs.YtleoeccjnchclaaGreatDoor
namespace Go.Proofs.YtleoeccjnchclaaGreatDoor
open Go.RowKit
set_option maxRecDepth 100000 in
set_option maxHeartbeats 4000000 in
theorem bulks16_any (w : World) (vt : Value) (l : List ByteArray) (h : RdC w 1 vt l.length (l.map .string)) (hl : l.length ≤ 1048576) : Calls Tryz.prog 32 #[vt] w (BulksPost w l) := by
  have H := Lib.hid h
  obtain ⟨-, a, c, rfl, -⟩ := h
  obtain ⟨i0, hi, hz0, hz1, hz2⟩ := info_parts info_reply
  have HI := Lib.hid hi
  have HZ0 := Lib.hid hz0
  have HZ1 := Lib.hid hz1
  have HZ2 := Lib.hid hz2
  clear hi hz0 hz1 hz2
  go_enter Tryz.func32, Tryz.ntmps32
  go_wp2_with fail
  have HS : Hid (Bk w ((w.alloc (.cells #[.int .i64 0, .string ⟨#[]⟩, .int .i64 0, .slice none 0 0] 49)).alloc (.cells #[.int .i64 6, .string ⟨#[]⟩, .int .i64 0, .slice none 0 0] 49)) (.slice none 0 0) (l.take 0)) := by
    have a1 := alloc_at w (.cells #[.int .i64 0, .string ⟨#[]⟩, .int .i64 0, .slice none 0 0] 49)
    have a2 := alloc_at (w.alloc (.cells #[.int .i64 0, .string ⟨#[]⟩, .int .i64 0, .slice none 0 0] 49)) (.cells #[.int .i64 6, .string ⟨#[]⟩, .int .i64 0, .slice none 0 0] 49)
    rw [World.size_alloc] at a2
    exact ⟨((Fr.alloc (fun _ => False) _ _).block _ (by simp) (fun h => h)).trans a1, a2, World.ownsRow_nil _ _ _ _, (Fr.alloc (fun _ => False) w _).thenAlloc _⟩
  go_loopw [9] (fun i wr => ∃ (k : Nat) (v : Value), i = .int .i64 k ∧ k ≤ l.length ∧ Hid (Bk w wr v (l.take k))) (fun i _ => l.length - (intOf i).toNat)
  case atStart => exact ⟨0, _, rfl, by omega, HS⟩
  case round =>
    obtain ⟨k, v, rfl, hk, HB⟩ := hrel
    obtain ⟨wo, rfl⟩ : ∃ wo, wo = wr := ⟨_, rfl⟩
    obtain ⟨va, vc, rfl⟩ := ow_sliceN HB.out.row
    by_cases hlt : k < l.length
    · obtain ⟨g, off, rfl, ct⟩ := texts_at (H.out.fr HB.out.fr (fun _ _ h => h)) k hlt
      obtain ⟨x, hx⟩ : ∃ x, l[k] = x := ⟨_, rfl⟩
      have hts : l.take (k + 1) = l.take k ++ [x] := by rw [List.take_succ_eq_append_getElem hlt, hx]
      have HTS := Lib.hid hts
      rw [hx] at ct
      have hkl : (l.take k).length = k := by rw [List.length_take]; omega
      have hrow := HB.out.row
      rw [hkl] at hrow HB
      have c3 : wo.cell? ⟨w.heap.size + 1, 3, none⟩ = some (.slice va k vc) := cell_of_blk HB.out.b3 3
      have f3 : wo.frozen? ⟨w.heap.size + 1, 3, none⟩ = false := free_of_blk HB.out.b3 3
      have HKL := Lib.hid hkl
      have HROW := Lib.hid hrow
      have HBU := fun w => Lib.hid (bulk16_any x w)
      have hsz : w.heap.size + 2 ≤ wo.heap.size := by have := (Array.getElem?_eq_some_iff.1 HB.out.b3).1; omega
      have b0 : (0 : Int) ≤ (k : Int) := by omega
      have b1 : (k : Int) < (l.length : Int) := by omega
      have HR7 : Hid (((wo.alloc (.cells #[.int .i64 4, .string x, .int .i64 0, .slice none 0 0] 49)).alloc (.cells #[.int .i64 4, .string x, .int .i64 0, .slice none 0 0] 49)).drew.ownsRow (w.heap.size + 2) 49 4 (.slice va k vc) k ((l.take k).flatMap bulkC)) := by
        exact ((hrow.alloc _).alloc _)
      have HL7 : Hid (RdC ((wo.alloc (.cells #[.int .i64 4, .string x, .int .i64 0, .slice none 0 0] 49)).alloc (.cells #[.int .i64 4, .string x, .int .i64 0, .slice none 0 0] 49)).drew 4 (.slice (some ⟨wo.heap.size + 1, 0, none⟩) 1 1) 1 (bulkC x)) := by
        have h0 := World.ownsRow_lit (base := 0) (e := 49) (size := 4) (wo.alloc (.cells #[.int .i64 4, .string x, .int .i64 0, .slice none 0 0] 49)) #[.int .i64 4, .string x, .int .i64 0, .slice none 0 0] 1 (Nat.zero_le _) (by decide) rfl
        have h1 := RdC.of_owns h0
        rw [World.size_alloc] at h1
        exact h1
      have HQ7 : Hid (Fr (fun _ => False) wo ((wo.alloc (.cells #[.int .i64 4, .string x, .int .i64 0, .slice none 0 0] 49)).alloc (.cells #[.int .i64 4, .string x, .int .i64 0, .slice none 0 0] 49)).drew) := ((Fr.alloc (fun _ => False) wo _).thenAlloc _).thenDrew
      have c3a : (wo.alloc (.cells #[.int .i64 4, .string x, .int .i64 0, .slice none 0 0] 49)).drew.cell? ⟨w.heap.size + 1, 3, none⟩ = some (.slice va k vc) := ((Fr.alloc (fun _ => False) wo _).thenDrew).cell c3 (fun h => h)
      have c3b : ((wo.alloc (.cells #[.int .i64 4, .string x, .int .i64 0, .slice none 0 0] 49)).alloc (.cells #[.int .i64 4, .string x, .int .i64 0, .slice none 0 0] 49)).drew.cell? ⟨w.heap.size + 1, 3, none⟩ = some (.slice va k vc) := HQ7.out.cell c3 (fun h => h)
      clear hx hts hkl hrow HS
      go_upto_region 5 with (fail)
      go_region_law (first
        | (go_simp; go_at_call 43; ((with_reducible refine (HBU _).out.mono ?_); rintro e w7 ⟨rfl, rfl⟩; dsimp only))
        | (refine step_append (by rfl) (.tmp 14) (.tmp 17) 47 (by rfl) (w.heap.size + 2) 49 i0 (.agg #[.int .i64 0, .string ⟨#[]⟩, .int .i64 0, .slice none 0 0]) 4 56 Tryz.underlying47 HI.out HZ0.out HZ1.out HZ2.out rfl (by decide) (.slice va k vc) k _ (by rfl) HR7.out (.slice (some ⟨wo.heap.size + 1, 0, none⟩) 1 1) 1 (bulkC x) (by rfl) HL7.out (by simp [bulkC, Value.oneCell']) (by unfold maxLen; omega) (by omega) (by simp; omega) ?_; intro v8 w8 hown hgrow; have hrow8 := ow_sliceN hown; obtain ⟨a8, c8, rfl⟩ := hrow8; have HO8 := Lib.hid hown; have HG8 := Lib.hid hgrow; have HB8 := Lib.hid (HB.out.next (x := x) (v8 := .slice a8 (k + 1) c8) ⟨_, HQ7.out, by exact hgrow⟩ (by rw [HKL.out]; exact hown)); have e3 := eight_cell HB.out HQ7.out hgrow; have e4 := eight_free HB.out HQ7.out hgrow; clear hown hgrow))
      all_goals
        have HB9 : Hid (Bk w (w8.setCell ⟨w.heap.size + 1, 3, none⟩ (.slice a8 (k + 1) c8)) (.slice a8 (k + 1) c8) (l.take (k + 1))) := by show Bk _ _ _ _; rw [HTS.out]; exact HB8.out
        go_wp2_with fail
        go_roundw
        case rel => exact ⟨k + 1, _, by go_num, by omega, HB9⟩
        case measure => simp [intOf]; omega
    · obtain rfl : k = l.length := by omega
      have hb := HB.out
      simp only [List.take_length] at hb
      have x0 := cell_of_blk hb.b3 0
      have x1 := cell_of_blk hb.b3 1
      have x2 := cell_of_blk hb.b3 2
      have x3 := cell_of_blk hb.b3 3
      have y0 := cell_of_blk hb.b2 0
      have y1 := cell_of_blk hb.b2 1
      have y2 := cell_of_blk hb.b2 2
      have y3 := cell_of_blk hb.b2 3
      have z0 := free_of_blk hb.b2 0
      have z1 := free_of_blk hb.b2 1
      have z2 := free_of_blk hb.b2 2
      have z3 := free_of_blk hb.b2 3
      have HB2 := Lib.hid hb
      clear hb HB HS
      have k1 := heap_setCell_same wo w.heap.size 0 _ _ (.int .i64 6) HB2.out.b2
      have k2 := heap_setCell_same _ w.heap.size 1 _ _ (.string ⟨#[]⟩) k1
      have k3 := heap_setCell_same _ w.heap.size 2 _ _ (.int .i64 0) k2
      have k4 := heap_setCell_same _ w.heap.size 3 _ _ (.slice va l.length vc) k3
      have K4 := Lib.hid k4
      clear k1 k2 k3 k4
      go_wp2_with fail
      refine bodyPost_ret (v := .agg #[.int .i64 6, .string ⟨#[]⟩, .int .i64 0, .slice va l.length vc]) ?_ rfl ⟨.slice va l.length vc, rfl, ?_, ?_⟩
      · exact results_cell_row rfl _ _ w.heap.size 49 #[.int .i64 6, .string ⟨#[]⟩, .int .i64 0, .slice va l.length vc] (0, 0) _ rfl K4.out Tryz.underlying49 rfl (by kernel_rfl)
      · have hr := HB2.out.row
        rcases hr with ⟨h1, h2 | ⟨g, cap, cur, he, hb, hgg, hnc, hcm, hcs, htake⟩⟩
        · exact ⟨h1, .inl h2⟩
        · refine ⟨h1, .inr ⟨g, cap, cur, he, by omega, ?_, hnc, hcm, hcs, htake⟩⟩
          have f : ∀ (W : World) (i : Nat) (u : Value), W.heap[g]? = some (.cells cur 49 (0, 0)) → (W.setCell ⟨w.heap.size, i, none⟩ u).heap[g]? = some (.cells cur 49 (0, 0)) := fun W i u hW => ((Fr.setCell W ⟨w.heap.size, i, none⟩ u).block g (Array.getElem?_eq_some_iff.1 hW).1 (by dsimp only; omega)).trans hW
          exact f _ _ _ (f _ _ _ (f _ _ _ (f _ _ _ hgg)))
      · have f : ∀ (W : World) (i : Nat) (u : Value), Fr (fun _ => False) w W → Fr (fun _ => False) w (W.setCell ⟨w.heap.size, i, none⟩ u) := fun W i u hW => hW.wide (Fr.setCell W ⟨w.heap.size, i, none⟩ u) (fun i hi => .inr (by dsimp only at hi; omega))
        exact f _ _ _ (f _ _ _ (f _ _ _ (f _ _ _ HB2.out.fr)))
end Go.Proofs.YtleoeccjnchclaaGreatDoor

/- Plain: the document's answers are the program's; pantryref16.Same at bulks and at arrays of bulks; pantryref25.SameOuts; pantryref25.SameOuts, at outs that are the same. No condition but sizes. -/
import Derived.Test.YtleoeccjnchclaaGreatDoorZbb
import Derived.StillTailTactics
namespace Go.Proofs.YtleoeccjnchclaaGreatDoor
open Go.RowKit
section
variable {R : List Rw} {fc fp : Int → List ByteArray}
theorem RowsOf.cnt (H : RowsOf R fc fp) (s : Int) (h1 : (fc s).Nodup) (h2 : (fp s).Nodup) : cntS R s = (fc s).length + (fp s).length := H.size s h1 h2
theorem addF_nodup {f : Int → List ByteArray} {s : Int} {k : ByteArray} (h : ∀ s, (f s).Nodup) (hk : k ∉ f s) : ∀ s', (addF f s k s').Nodup := fun s' => by
  unfold addF
  split
  · rename_i e
    subst e
    exact List.nodup_append.2 ⟨h _, by simp, fun a ha b hb e => by rw [List.mem_singleton.1 hb] at e; exact hk (by rw [← e]; exact ha)⟩
  · exact h s'
theorem lsC_eq (H : RowsOf R fc fp) (h1 : ∀ s, (fc s).Nodup) (h2 : ∀ s, (fp s).Nodup) (s : Int) (k : ByteArray) :
    (refLs R (s, false, k)).1 = (lsRes fc fp s k).1 ∧ (refLs R (s, false, k)).2.1 = (lsRes fc fp s k).2.1 ∧ RowsOf (refLs R (s, false, k)).2.2 (lsRes fc fp s k).2.2 fp ∧ (refLs R (s, false, k)).2.2.length ≤ R.length + 1 := by
  have hc : cntS R s = (fc s).length + (fp s).length := H.cnt s (h1 s) (h2 s)
  unfold refLs lsRes
  by_cases hl : 1024 < k.size
  · rw [if_pos (show 1024 < ((s, false, k) : Rw).2.2.size from hl), if_pos hl]
    exact ⟨rfl, rfl, H, Nat.le_succ _⟩
  rw [if_neg (show ¬ 1024 < ((s, false, k) : Rw).2.2.size from hl), if_neg hl]
  by_cases hm : k ∈ fc s
  · rw [if_pos ((H.c s k).2 hm), if_pos hm]
    exact ⟨hc, rfl, H, Nat.le_succ _⟩
  rw [if_neg (fun h => hm ((H.c s k).1 h)), if_neg hm]
  rw [show cntS R ((s, false, k) : Rw).1 = (fc s).length + (fp s).length from hc]
  by_cases hf : 1024 ≤ (fc s).length + (fp s).length
  · rw [if_pos hf, if_pos hf]
    exact ⟨rfl, rfl, H, Nat.le_succ _⟩
  rw [if_neg hf, if_neg hf]
  have H2 := H.addC aheadB_iff s k hm
  refine ⟨?_, rfl, H2, by show (insR _ _ _).length ≤ _; rw [insR_len]; exact Nat.le_refl _⟩
  have := H2.cnt s (addF_nodup h1 hm s) (h2 s)
  show cntS _ _ = _
  rw [this, addF_same, List.length_append]
  show _ + 1 + _ = _ + _ + 1
  omega
theorem lsP_eq (H : RowsOf R fc fp) (h1 : ∀ s, (fc s).Nodup) (h2 : ∀ s, (fp s).Nodup) (s : Int) (k : ByteArray) :
    (refLs R (s, true, k)).1 = (lsRes fp fc s k).1 ∧ (refLs R (s, true, k)).2.1 = (lsRes fp fc s k).2.1 ∧ RowsOf (refLs R (s, true, k)).2.2 fc (lsRes fp fc s k).2.2 ∧ (refLs R (s, true, k)).2.2.length ≤ R.length + 1 := by
  have hc : cntS R s = (fc s).length + (fp s).length := H.cnt s (h1 s) (h2 s)
  unfold refLs lsRes
  by_cases hl : 1024 < k.size
  · rw [if_pos (show 1024 < ((s, true, k) : Rw).2.2.size from hl), if_pos hl]
    exact ⟨rfl, rfl, H, Nat.le_succ _⟩
  rw [if_neg (show ¬ 1024 < ((s, true, k) : Rw).2.2.size from hl), if_neg hl]
  by_cases hm : k ∈ fp s
  · rw [if_pos ((H.p s k).2 hm), if_pos hm]
    exact ⟨by show cntS R s = _; omega, rfl, H, Nat.le_succ _⟩
  rw [if_neg (fun h => hm ((H.p s k).1 h)), if_neg hm]
  rw [show cntS R ((s, true, k) : Rw).1 = (fc s).length + (fp s).length from hc, Nat.add_comm (fc s).length]
  by_cases hf : 1024 ≤ (fp s).length + (fc s).length
  · rw [if_pos hf, if_pos hf]
    exact ⟨rfl, rfl, H, Nat.le_succ _⟩
  rw [if_neg hf, if_neg hf]
  have H2 := H.addP aheadB_iff s k hm
  refine ⟨?_, rfl, H2, by show (insR _ _ _).length ≤ _; rw [insR_len]; exact Nat.le_refl _⟩
  have := H2.cnt s (h1 s) (addF_nodup h2 hm s)
  show cntS _ _ = _
  rw [this, addF_same, List.length_append]
  show _ + (_ + 1) = _ + _ + 1
  omega
theorem RowsOf.leaveC (H : RowsOf R fc fp) (s : Int) (k : ByteArray) : RowsOf (R.filter (notX (s, false, k))) (delF fc s k) fp := H.delC s k
theorem RowsOf.leaveP (H : RowsOf R fc fp) (s : Int) (k : ByteArray) : RowsOf (R.filter (notX (s, true, k))) fc (delF fp s k) := H.delP s k
theorem RowsOf.drop (H : RowsOf R fc fp) (s : Int) : RowsOf (R.filter (notS s)) (cutF fc s) (cutF fp s) := H.cut s
theorem delF_nodup {f : Int → List ByteArray} (s : Int) (k : ByteArray) (h : ∀ s, (f s).Nodup) : ∀ s', (delF f s k s').Nodup := fun s' => by
  unfold delF
  split
  · exact List.filter_sublist.nodup (h s')
  · exact h s'
/-! what Tell tells -/
theorem part_like (H : RowsOf R fc fp) : R = R.filter (fun r => !r.2.1) ++ R.filter (fun r => r.2.1) := by
  refine ahd_same H.up (List.pairwise_append.2 ⟨H.up.sublist List.filter_sublist, H.up.sublist List.filter_sublist, fun a ha b hb => ?_⟩) fun x => ?_
  · have e1 := (List.mem_filter.1 ha).2
    have e2 := (List.mem_filter.1 hb).2
    exact .inl ⟨by simpa using e1, by simpa using e2⟩
  · rw [List.mem_append, List.mem_filter, List.mem_filter]
    cases hx : x.2.1 <;> simp
theorem flat_map_rows {Z : List Int} {f : Int → List ByteArray} (b : Bool) (hZ : Z.Pairwise (· < ·)) (hn : ∀ s, (f s).Nodup) : (Z.flatMap fun s => (sortS (f s)).map fun k => ((s, b, k) : Rw)).Pairwise ahd := by
  induction Z with
  | nil => exact .nil
  | cons s Z ih =>
    rw [List.pairwise_cons] at hZ
    rw [List.flatMap_cons]
    refine List.pairwise_append.2 ⟨?_, ih hZ.2, fun a ha c hc => ?_⟩
    · rw [List.pairwise_map]
      exact (sortS_rises (hn s)).imp fun h => .inr ⟨rfl, .inr ⟨rfl, h⟩⟩
    · obtain ⟨k, _, rfl⟩ := List.mem_map.1 ha
      obtain ⟨t, ht, hc⟩ := List.mem_flatMap.1 hc
      obtain ⟨q, _, rfl⟩ := List.mem_map.1 hc
      exact .inr ⟨rfl, .inl (hZ.1 t ht)⟩
theorem rows_form (H : RowsOf R fc fp) {Z : List Int} (hZ : Z.Pairwise (· < ·)) (hz : Named (fc, fp) Z) (h1 : ∀ s, (fc s).Nodup) (h2 : ∀ s, (fp s).Nodup) :
    R = (Z.flatMap fun s => (sortS (fc s)).map fun k => ((s, false, k) : Rw)) ++ (Z.flatMap fun s => (sortS (fp s)).map fun k => ((s, true, k) : Rw)) := by
  refine ahd_same H.up (List.pairwise_append.2 ⟨flat_map_rows false hZ h1, flat_map_rows true hZ h2, fun a ha b hb => ?_⟩) fun x => ?_
  · obtain ⟨s, _, ha⟩ := List.mem_flatMap.1 ha
    obtain ⟨k, _, rfl⟩ := List.mem_map.1 ha
    obtain ⟨t, _, hb⟩ := List.mem_flatMap.1 hb
    obtain ⟨q, _, rfl⟩ := List.mem_map.1 hb
    exact .inl ⟨rfl, rfl⟩
  · obtain ⟨s, b, k⟩ := x
    rw [List.mem_append, List.mem_flatMap, List.mem_flatMap]
    constructor
    · intro hx
      cases b
      · have hk := (H.c s k).1 hx
        exact .inl ⟨s, hz.1 s (fun e => by rw [show fc s = [] from e] at hk; cases hk), List.mem_map.2 ⟨k, (mem_sortS _ _).2 hk, rfl⟩⟩
      · have hk := (H.p s k).1 hx
        exact .inr ⟨s, hz.2 s (fun e => by rw [show fp s = [] from e] at hk; cases hk), List.mem_map.2 ⟨k, (mem_sortS _ _).2 hk, rfl⟩⟩
    · rintro (⟨t, _, hx⟩ | ⟨t, _, hx⟩)
      · obtain ⟨q, hq, e⟩ := List.mem_map.1 hx
        cases e
        exact (H.c s k).2 ((mem_sortS _ _).1 hq)
      · obtain ⟨q, hq, e⟩ := List.mem_map.1 hx
        cases e
        exact (H.p s k).2 ((mem_sortS _ _).1 hq)
theorem flat_rows (Z : List Int) (f : Int → List ByteArray) (b : Bool) (k text : ByteArray) : (Z.flatMap fun s => (sortS (f s)).map fun q => ((s, b, q) : Rw)).flatMap (rowT k text) = Z.flatMap fun s => (sortS (f s)).flatMap fun q => rowT k text (s, b, q) := by
  rw [List.flatMap_assoc]
  refine congrArg (fun g => Z.flatMap g) (funext fun s => ?_)
  rw [List.flatMap_map]
theorem row_names (l : List ByteArray) (s : Int) (k text : ByteArray) : (l.flatMap fun q => rowT k text (s, false, q)) = (l.filter fun c => decide (c = k)).map fun _ => msgL s k text := by
  induction l with
  | nil => rfl
  | cons a l ih =>
    rw [List.flatMap_cons, ih]
    by_cases e : a = k
    · rw [List.filter_cons_of_pos (by simpa using e)]
      unfold rowT
      rw [if_pos ⟨rfl, e⟩]
      rfl
    · rw [List.filter_cons_of_neg (by simpa using e)]
      unfold rowT
      rw [if_neg (fun h => e h.2), if_neg (fun h => by cases h.1)]
      rfl
theorem row_pats (l : List ByteArray) (s : Int) (k text : ByteArray) : (l.flatMap fun q => rowT k text (s, true, q)) = (l.filter fun p => gm p k).map fun p => pmsgL s p k text := by
  induction l with
  | nil => rfl
  | cons a l ih =>
    rw [List.flatMap_cons, ih]
    by_cases e : gm a k = true
    · rw [List.filter_cons_of_pos (p := fun p => gm p k) e]
      unfold rowT
      rw [if_neg (fun h => by cases h.1), if_pos ⟨rfl, e⟩]
      rfl
    · rw [List.filter_cons_of_neg (p := fun p => gm p k) e]
      unfold rowT
      rw [if_neg (fun h => by cases h.1), if_neg (fun h => e h.2)]
      rfl
theorem tell_rows (H : RowsOf R fc fp) {Z : List Int} (hZ : Z.Pairwise (· < ·)) (hz : Named (fc, fp) Z) (h1 : ∀ s, (fc s).Nodup) (h2 : ∀ s, (fp s).Nodup) (k text : ByteArray) :
    Z.flatMap (nameL fc k text) ++ Z.flatMap (patL fp k text) = R.flatMap (rowT k text) := by
  rw [rows_form H hZ hz h1 h2, List.flatMap_append, flat_rows, flat_rows]
  have e1 : (fun s => (sortS (fc s)).flatMap fun q => rowT k text (s, false, q)) = nameL fc k text := funext fun s => row_names _ s k text
  have e2 : (fun s => (sortS (fp s)).flatMap fun q => rowT k text (s, true, q)) = patL fp k text := funext fun s => row_pats _ s k text
  rw [e1, e2]
/-- the sessions of the rows, rising -/
theorem rows_named (H : RowsOf R fc fp) : ∃ Z : List Int, Z.Pairwise (· < ·) ∧ Named (fc, fp) Z := by
  have hd : ∀ l : List Int, ∃ Z : List Int, Z.Pairwise (· < ·) ∧ ∀ x, x ∈ Z ↔ x ∈ l := fun l => by
    induction l with
    | nil => exact ⟨[], .nil, fun x => Iff.rfl⟩
    | cons a l ih =>
      obtain ⟨Z, h1, h2⟩ := ih
      by_cases ha : a ∈ Z
      · refine ⟨Z, h1, fun x => ?_⟩
        rw [List.mem_cons, h2]
        exact ⟨.inr, fun h => h.elim (fun e => by rw [e]; exact (h2 a).1 ha) id⟩
      · refine ⟨sortI (a :: Z), sortI_rises (List.nodup_cons.2 ⟨ha, by unfold List.Nodup; exact h1.imp fun h => by omega⟩), fun x => ?_⟩
        rw [(sortI_perm _).mem_iff, List.mem_cons, List.mem_cons, h2]
  obtain ⟨Z, h1, h2⟩ := hd (R.map fun r => r.1)
  refine ⟨Z, h1, fun s hs => ?_, fun s hs => ?_⟩
  · have hs : fc s ≠ [] := hs
    obtain ⟨k, hk⟩ := List.exists_mem_of_ne_nil _ hs
    exact (h2 s).2 (List.mem_map.2 ⟨(s, false, k), (H.c s k).2 hk, rfl⟩)
  · have hs : fp s ≠ [] := hs
    obtain ⟨k, hk⟩ := List.exists_mem_of_ne_nil _ hs
    exact (h2 s).2 (List.mem_map.2 ⟨(s, true, k), (H.p s k).2 hk, rfl⟩)
/-- how many listen to a channel by name -/
theorem count_rows (H : RowsOf R fc fp) {Z : List Int} (hZ : Z.Pairwise (· < ·)) (hz : Named (fc, fp) Z) (h1 : ∀ s, (fc s).Nodup) (h2 : ∀ s, (fp s).Nodup) (k text : ByteArray) : (Z.flatMap (nameL fc k text)).length = (R.filter (ofK k)).length := by
  have e : ∀ l : List Rw, (l.flatMap fun r => if ofK k r then [msgL r.1 k text] else []).length = (l.filter (ofK k)).length := fun l => by
    induction l with
    | nil => rfl
    | cons a l ih =>
      rw [List.flatMap_cons, List.length_append, ih]
      cases ha : ofK k a
      · rw [if_neg (by decide), List.filter_cons_of_neg (by rw [ha]; decide)]; simp
      · rw [if_pos rfl, List.filter_cons_of_pos ha]; simp; omega
  rw [← e]
  conv => rhs; rw [rows_form H hZ hz h1 h2]
  rw [List.flatMap_append, List.length_append]
  have e2 : ((Z.flatMap fun s => (sortS (fp s)).map fun q => ((s, true, q) : Rw)).flatMap fun r => if ofK k r then [msgL r.1 k text] else []) = [] := by
    refine List.flatMap_eq_nil_iff.2 fun r hr => ?_
    obtain ⟨s, _, hr⟩ := List.mem_flatMap.1 hr
    obtain ⟨q, _, rfl⟩ := List.mem_map.1 hr
    rfl
  rw [e2, List.length_nil, Nat.add_zero, List.flatMap_assoc]
  refine congrArg List.length (congrArg (fun g => Z.flatMap g) (funext fun s => ?_))
  rw [List.flatMap_map]
  unfold nameL
  rw [← row_names]
  refine congrArg (fun g => (sortS (fc s)).flatMap g) (funext fun q => ?_)
  unfold rowT ofK
  by_cases e3 : q = k
  · rw [if_pos ⟨rfl, e3⟩, if_pos (by simpa using e3)]
  · rw [if_neg (fun h => e3 h.2), if_neg (fun h => by cases h.1), if_neg (by simpa using e3)]
theorem RowsOf.small (H : RowsOf R fc fp) (h : Sm (fc, fp)) : ∀ r ∈ R, r.2.2.size ≤ 1024 := fun r hr => by
  obtain ⟨s, b, k⟩ := r
  cases b
  · exact h.1 s k ((H.c s k).1 hr)
  · exact h.2 s k ((H.p s k).1 hr)
end
end Go.Proofs.YtleoeccjnchclaaGreatDoor
namespace Go.Proofs.YtleoeccjnchclaaGreatDoor
open Go.RowKit
set_option maxRecDepth 100000 in
set_option maxHeartbeats 2000000 in
theorem same16_bulk (x : ByteArray) (w : World) : Calls Tryz.prog 38 #[.agg #[.int .i64 4, .string x, .int .i64 0, .slice none 0 0], .agg #[.int .i64 4, .string x, .int .i64 0, .slice none 0 0]] w fun e w' => e = .returned (.bool true) ∧ Fr (fun _ => False) w w' := by
  have hq : (x.toList == x.toList) = true := by rw [str_beq]; simp
  go_enter Tryz.func38, Tryz.ntmps38
  go_wp2
  go_loopw [37] (fun i wr => i = .int .i64 0 ∧ Hid (Fr (fun _ => False) w wr)) (fun _ _ => 0)
  case atStart => exact ⟨rfl, (Fr.alloc _ _ _).thenAlloc _⟩
  case round =>
    obtain ⟨rfl, HF⟩ := hrel
    go_wp2
    go_ret
    exact ⟨rfl, HF.out⟩
set_option maxRecDepth 100000 in
set_option maxHeartbeats 4000000 in
theorem same16_arr (w : World) (u u' : Value) (l : List ByteArray) (hr : RdC w 4 u l.length (l.flatMap bulkC)) (hr' : RdC w 4 u' l.length (l.flatMap bulkC)) (hl : l.length ≤ 1048576) :
    Calls Tryz.prog 38 #[.agg #[.int .i64 6, .string ⟨#[]⟩, .int .i64 0, u], .agg #[.int .i64 6, .string ⟨#[]⟩, .int .i64 0, u']] w fun e w' => e = .returned (.bool true) ∧ Fr (fun _ => False) w w' := by
  have HR := Lib.hid hr
  have HR' := Lib.hid hr'
  obtain ⟨-, ua, uc, rfl, -⟩ := hr
  obtain ⟨-, va, vc, rfl, -⟩ := hr'
  obtain ⟨w1, hw1⟩ : ∃ x, (w.alloc (.cells #[.int .i64 6, .string ⟨#[]⟩, .int .i64 0, .slice ua l.length uc] 49)).alloc (.cells #[.int .i64 6, .string ⟨#[]⟩, .int .i64 0, .slice va l.length vc] 49) = x := ⟨_, rfl⟩
  have hf1 : Fr (fun _ => False) w w1 := by rw [← hw1]; exact (Fr.alloc _ _ _).thenAlloc _
  have ha : w1.heap[w.heap.size]? = some (.cells #[.int .i64 6, .string ⟨#[]⟩, .int .i64 0, .slice ua l.length uc] 49 (0, 0)) := by rw [← hw1]; exact blk_later (alloc_at w _) (Fr.alloc (fun _ => False) _ _) (fun h => h)
  have hb : w1.heap[w.heap.size + 1]? = some (.cells #[.int .i64 6, .string ⟨#[]⟩, .int .i64 0, .slice va l.length vc] 49 (0, 0)) := by
    rw [← hw1]
    have := alloc_at (w.alloc (.cells #[.int .i64 6, .string ⟨#[]⟩, .int .i64 0, .slice ua l.length uc] 49)) (.cells #[.int .i64 6, .string ⟨#[]⟩, .int .i64 0, .slice va l.length vc] 49)
    rwa [World.size_alloc] at this
  have a0 : w1.cell? ⟨w.heap.size, 0, none⟩ = some (.int .i64 6) := cell_of_blk ha 0
  have a1 : w1.cell? ⟨w.heap.size, 1, none⟩ = some (.string ⟨#[]⟩) := cell_of_blk ha 1
  have a2 : w1.cell? ⟨w.heap.size, 2, none⟩ = some (.int .i64 0) := cell_of_blk ha 2
  have a3 : w1.cell? ⟨w.heap.size, 3, none⟩ = some (.slice ua l.length uc) := cell_of_blk ha 3
  have b0 : w1.cell? ⟨w.heap.size + 1, 0, none⟩ = some (.int .i64 6) := cell_of_blk hb 0
  have b1 : w1.cell? ⟨w.heap.size + 1, 1, none⟩ = some (.string ⟨#[]⟩) := cell_of_blk hb 1
  have b2 : w1.cell? ⟨w.heap.size + 1, 2, none⟩ = some (.int .i64 0) := cell_of_blk hb 2
  have b3 : w1.cell? ⟨w.heap.size + 1, 3, none⟩ = some (.slice va l.length vc) := cell_of_blk hb 3
  have HF1 := Lib.hid hf1
  have HW1 := Lib.hid hw1
  clear hf1 ha hb hw1
  go_enter Tryz.func38, Tryz.ntmps38
  go_upto_region 1 with (fail)
  rw [HW1.out]
  go_wp2
  go_loopw [37] (fun i wr => ∃ k : Nat, i = .int .i64 k ∧ k ≤ l.length ∧ Hid (Fr (fun _ => False) w1 wr)) (fun i _ => l.length - (intOf i).toNat)
  case atStart => exact ⟨0, rfl, by omega, Fr.refl _ _⟩
  case round =>
    obtain ⟨k, rfl, hk, HF⟩ := hrel
    obtain ⟨wo, rfl⟩ : ∃ x, x = wr := ⟨_, rfl⟩
    by_cases hlt : k < l.length
    · have hr1 := HR.out.fr (HF1.out.wide HF.out (fun _ h => h.elim)) (fun _ _ h => h)
      have hr2 := HR'.out.fr (HF1.out.wide HF.out (fun _ h => h.elim)) (fun _ _ h => h)
      have hp : 0 < (l.flatMap bulkC).length := by have := flat_atD bulkC 4 (fun _ => rfl) l k 0 hlt (by decide); have h2 : (bulkC l[k])[0]? = some (.int .i64 4) := rfl; rw [h2] at this; have := (List.getElem?_eq_some_iff.1 this).1; omega
      obtain ⟨g, off, rfl, hc⟩ := hr1.at hp
      obtain ⟨g2, off2, rfl, hc2⟩ := hr2.at hp
      obtain ⟨y, hy⟩ : ∃ y, l[k] = y := ⟨_, rfl⟩
      have hfl := fun j hj => flat_atD bulkC 4 (fun _ => rfl) l k j hlt hj
      rw [hy] at hfl
      have x0 := hc (k * 4 + 0) _ (by rw [hfl 0 (by decide)]; rfl)
      have x1 := hc (k * 4 + 1) _ (by rw [hfl 1 (by decide)]; rfl)
      have x2 := hc (k * 4 + 2) _ (by rw [hfl 2 (by decide)]; rfl)
      have x3 := hc (k * 4 + 3) _ (by rw [hfl 3 (by decide)]; rfl)
      have z0 := hc2 (k * 4 + 0) _ (by rw [hfl 0 (by decide)]; rfl)
      have z1 := hc2 (k * 4 + 1) _ (by rw [hfl 1 (by decide)]; rfl)
      have z2 := hc2 (k * 4 + 2) _ (by rw [hfl 2 (by decide)]; rfl)
      have z3 := hc2 (k * 4 + 3) _ (by rw [hfl 3 (by decide)]; rfl)
      rw [Nat.add_zero] at x0 z0
      rw [← Nat.add_assoc] at x1 x2 x3 z1 z2 z3
      have e3 := HF.out.cell a3 (fun h => h)
      have f3 := HF.out.cell b3 (fun h => h)
      have c0 : (0 : Int) ≤ (k : Int) := by omega
      have c1 : (k : Int) < (l.length : Int) := by omega
      clear hr1 hr2 hp hc hc2 hy hfl
      go_upto_region 6 with (fail)
      go_region_law (first
        | (go_simp; go_at_call 38; ((with_reducible refine (same16_bulk y _).mono ?_); rintro e w7 ⟨rfl, hf7⟩; have HF7 := Lib.hid hf7; clear hf7; dsimp only)))
      all_goals
        go_wp2
        go_roundw
        case rel => exact ⟨k + 1, by go_num, by omega, (HF.out.thenDrew).wide HF7.out (fun _ h => h.elim)⟩
        case measure => simp [intOf]; omega
    · go_wp2
      go_ret
      exact ⟨rfl, HF1.out.wide HF.out (fun _ h => h.elim)⟩
end Go.Proofs.YtleoeccjnchclaaGreatDoor
namespace Go.Proofs.YtleoeccjnchclaaGreatDoor
open Go.RowKit
set_option maxRecDepth 100000 in
set_option maxHeartbeats 8000000 in
theorem sameOuts_any (w : World) (B B' : Nat) (a a' : Option Addr) (c c' : Nat) (O : List Ot) (ha : OutsAt w B (.slice a O.length c) O) (hb : OutsAt w B' (.slice a' O.length c') O) (hO : ∀ o ∈ O, o.2.length ≤ 1048576) (hl : O.length ≤ 2199023255552) :
    Calls Tryz.prog 20 #[.slice a O.length c, .slice a' O.length c'] w fun e w' => e = .returned (.bool true) ∧ Fr (fun _ => False) w w' := by
  have HA := Lib.hid ha
  have HB := Lib.hid hb
  have HO := Lib.hid hO
  clear ha hb hO
  go_enter Tryz.func20, Tryz.ntmps20
  go_wp2
  go_loopw [13] (fun i wr => ∃ k : Nat, i = .int .i64 k ∧ k ≤ O.length ∧ Hid (Fr (fun _ => False) w wr)) (fun i _ => O.length - (intOf i).toNat)
  case atStart => exact ⟨0, rfl, by omega, Fr.refl _ _⟩
  case round =>
    obtain ⟨k, rfl, hk, HF⟩ := hrel
    obtain ⟨wo, rfl⟩ : ∃ x, x = wr := ⟨_, rfl⟩
    by_cases hlt : k < O.length
    · obtain ⟨g, off, ua, uc, rfl, x0, x1, x2, x3, x4, hr1⟩ := out_at (HA.out.quiet HF.out) k hlt
      obtain ⟨g2, off2, va, vc, rfl, z0, z1, z2, z3, z4, hr2⟩ := out_at (HB.out.quiet HF.out) k hlt
      have hol := HO.out O[k] (List.getElem_mem hlt)
      obtain ⟨o, ho⟩ : ∃ o, O[k] = o := ⟨_, rfl⟩
      rw [ho] at x0 x4 z0 z4 hr1 hr2 hol
      obtain ⟨os, ot⟩ := o
      dsimp only at x0 x4 z0 z4 hr1 hr2 hol
      have HSM := Lib.hid (same16_arr wo.drew _ _ ot ((RdC.of_owns hr1).fr (Fr.drew (fun _ => False) _) (fun _ _ h => h)) ((RdC.of_owns hr2).fr (Fr.drew (fun _ => False) _) (fun _ _ h => h)) hol)
      have c0 : (0 : Int) ≤ (k : Int) := by omega
      have c1 : (k : Int) < (O.length : Int) := by omega
      clear ho hr1 hr2 hol
      go_upto_region 6 with (fail)
      refine wp_region_still_tail 22 (by kernel_rfl) (by kernel_rfl) ?_
      simp only [List.take_succ_cons, List.take_zero, List.drop_succ_cons, List.drop_zero]
      have hf7d : Fr (fun _ => False) wo { wo with drawn := wo.drawn + 1 } := Fr.drew (fun _ => False) wo
      obtain ⟨wd, hwd⟩ : ∃ x, ({ wo with drawn := wo.drawn + 1 } : World) = x := ⟨_, rfl⟩
      have HSM2 := HSM
      rw [show wo.drew = wd from hwd] at HSM2
      rw [hwd] at hf7d ⊢
      have HFD := Lib.hid hf7d
      have x0' := hf7d.cell x0 (fun h => h)
      have x1' := hf7d.cell x1 (fun h => h)
      have x2' := hf7d.cell x2 (fun h => h)
      have x3' := hf7d.cell x3 (fun h => h)
      have x4' := hf7d.cell x4 (fun h => h)
      have z0' := hf7d.cell z0 (fun h => h)
      have z1' := hf7d.cell z1 (fun h => h)
      have z2' := hf7d.cell z2 (fun h => h)
      have z3' := hf7d.cell z3 (fun h => h)
      have z4' := hf7d.cell z4 (fun h => h)
      clear hwd hf7d HSM
      iterate 22 still_step
      refine wpStill_nil ?_
      go_wp2_with fail
      refine HSM2.out.mono ?_
      rintro e w7 ⟨rfl, hf7⟩
      have HF7 := Lib.hid (HFD.out.wide hf7 (fun _ h => h.elim))
      clear hf7
      go_wp2
      go_roundw
      case rel => exact ⟨k + 1, by go_num, by omega, HF.out.wide HF7.out (fun _ h => h.elim)⟩
      case measure => simp [intOf]; omega
    · go_wp2
      go_ret
      exact ⟨rfl, HF.out⟩
end Go.Proofs.YtleoeccjnchclaaGreatDoor

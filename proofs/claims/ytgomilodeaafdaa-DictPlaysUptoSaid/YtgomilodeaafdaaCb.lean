/- The document's dict turned and scanned. No condition. -/
import Derived.Test.YtgomilodeaafdaaCa
import Derived.Test.YtgomilodeaafdaaBb
import Derived.Test.YtgomilodeaafdaaBa
namespace Go.Proofs.Ytgomilodeaafdaa
open Go.RowKit
theorem fdG_keys {L : Pl} {key : ByteArray} : (fdG key L).isSome = true ↔ key ∈ L.map (·.1) := by
  cases h : fdG key L with
  | some i =>
    obtain ⟨x, hx⟩ := fdG_some h
    exact ⟨fun _ => List.mem_map.2 ⟨_, List.mem_of_getElem? hx, rfl⟩, fun _ => rfl⟩
  | none =>
    refine ⟨fun e => absurd e (by decide), fun hm => ?_⟩
    obtain ⟨e, he, hk⟩ := List.mem_map.1 hm
    exact absurd hk (fdG_none h e he)
set_option maxRecDepth 100000 in
set_option maxHeartbeats 1000000 in
theorem rdSet_there (w : World) (B p : Nat) (F : Nat → Prop) (N : NM) (L : Pl) (X : RB) (key : ByteArray) (x : Int) (i : Nat) (ha : fdG key L = some i) (h : RefD w B p F N L X) (hB : B ≤ w.heap.size) (hol : N.old.length ≤ 4398046511104) (hyl : N.young.length ≤ 4398046511104) (hL : L.length ≤ 2199023255552) :
    Calls Try.prog 70 #[.pointer (some ⟨p, 0, none⟩), .string key, .int .i64 x] w fun e w' => e = .returned (.bool false) ∧ RdTo w B p F (stepN N) (L.set i (key, x)) w' := by
  have HS := Lib.hid (rdStep_any w B p F N L X h hB hol hyl hL)
  obtain ⟨y, hy⟩ := fdG_some ha
  have hil := fdG_lt ha
  have HA := Lib.hid ha
  have HY := Lib.hid hy
  have b0 : (0 : Int) ≤ (i : Int) := by omega
  have b1 : (i : Int) < (L.length : Int) := by omega
  have g1 : decide ((0 : Int) ≤ (i : Int)) = true := decide_eq_true b0
  have e0 : idxV (some i) = (i : Int) := rfl
  clear h hol hyl ha hy
  go_enter Try.func70, Try.ntmps70
  go_wp2_with fail
  refine HS.out.mono ?_
  rintro e w1 ⟨rfl, X1, D1, F1⟩
  have HI := Lib.hid (rdIndex_any w1 p L X1.kv key D1.c.cells.2.2.2.2.1 (idx_keys (RdC.of_owns D1.c.ks)))
  rw [HA.out, e0] at HI
  have c5 := D1.c.cells.2.2.2.2.2
  have hvs := D1.c.vs
  obtain ⟨g, cap, hvv, -, -⟩ := hvs.form (by rw [List.length_map]; omega)
  rw [hvv] at c5 hvs
  rw [List.length_map] at c5
  have hzz := hvs.frozenAt i
  have hcc := hvs.cellAt i (by rw [List.length_map]; omega)
  rw [List.getElem?_map, List.getElem?_map, HY.out] at hcc
  have hcc2 : w1.cell? ⟨g, i, none⟩ = some (.int .i64 y) := hcc
  have HVV := Lib.hid hvv
  have HD := Lib.hid D1
  have HF := Lib.hid F1
  clear D1 F1 HS e0 hil hvv hvs hcc
  go_wp2_with fail
  refine HI.out.mono ?_
  rintro e w' ⟨rfl, rfl⟩
  go_wp2_with fail
  go_ret
  obtain ⟨q1, q2, q3⟩ := HD.out.c.setV HVV.out i x
  have hk : (L.set i (key, x)).map (·.1) = L.map (·.1) := map_fst_set HY.out
  refine ⟨rfl, X1, ⟨?_, by rw [hk]; exact HD.out.fit, fun z hz => ?_⟩, ?_⟩
  · rw [hk, List.map_set]
    exact q1.wide (fun _ hk => grew_set.2 hk) (fun k hk => q1.lt k (grew_set.1 hk))
  · rcases List.mem_or_eq_of_mem_set hz with hz | rfl
    · exact HD.out.ksz z hz
    · show key.size ≤ maxLen
      exact HD.out.ksz (key, y) (List.mem_of_getElem? HY.out)
  · refine HF.out.thenSet _ _ (fun hl => ?_)
    rcases q3 with q3 | q3
    · exact q3
    · exact absurd hl (by show ¬ g < w.heap.size; omega)
theorem RdTo.of {w w' : World} {B p : Nat} {F : Nat → Prop} {N : NM} {L : Pl} {X : RB} (h : RefC w' B p (Grew F w w') N (L.map (·.1)) (L.map (·.2)) X) (hf : Fr F w w') (hn : Fit N (L.map (·.1))) (hk : ∀ x ∈ L, x.1.size ≤ maxLen) : RdTo w B p F N L w' := ⟨X, ⟨h, hn, hk⟩, hf⟩
section
variable {w wo w6 : World} {B p : Nat} {F : Nat → Prop} {N : NM} {K : List ByteArray} {V : List Int} {X : RB} {o : Obj}
theorem RefC.grownBlk (h : RefC wo B p (Grew F w wo) N K V X) {v : Value} (hv : ∀ g, v.ownBlock = some g → ¬ g = p) (hg : (wo.alloc o).grownBy w6 v.ownBlock) : w6.heap[p]? = some (rdO N.seed N.at_ X) := by
  have h1 := alloc_old (o' := o) h.blk
  exact ((Fr.of_grownBy hg).block p (Array.getElem?_eq_some_iff.1 h1).1 (fun e => hv p e rfl)).trans h1
theorem RefC.keyedG (h : RefC wo B p (Grew F w wo) N K V X) (hB : B ≤ w.heap.size) (hf : Fr F w wo) {kv' : Value} {key : ByteArray} (hr : w6.ownsRow B 9 1 kv' (K.length + 1) ((K ++ [key]).map .string)) (hg : (wo.alloc o).grownBy w6 X.kv.ownBlock) (ha : ∀ g, kv'.ownBlock = some g → X.kv.ownBlock = some g ∨ (wo.alloc o).heap.size ≤ g) :
    RefC (w6.setCell ⟨p, 4, none⟩ kv') B p (Grew F w (w6.setCell ⟨p, 4, none⟩ kv')) N (K ++ [key]) V { X with kv := kv' } ∧ Fr F w (w6.setCell ⟨p, 4, none⟩ kv') := by
  have hs := hf.size
  have h1 := h.grown hf hB (Fr.alloc (fun _ => False) wo o)
  have hs1 : (wo.alloc o).heap.size = wo.heap.size + 1 := by simp
  have h2 := h1.keyed (by omega) hr hg ha
  have hf1 := Fr.of_grownBy hg
  have hs2 := hf1.size
  refine ⟨h2.wide (fun k hk => grew_set.2 ?_) (fun k hk => ?_), ?_⟩
  · rcases hk with (hk | hk) | hk
    · exact .inl hk
    · exact .inr ⟨hk.1, by omega⟩
    · exact .inr ⟨by omega, hk.2⟩
  · rcases grew_set.1 hk with hk | hk
    · exact h2.lt k (.inl (.inl hk))
    · exact ⟨by omega, by rw [World.size_setCell]; exact hk.2⟩
  · refine (((hf.wide (Fr.alloc (fun _ => False) wo o) (fun _ h => h.elim)).wide hf1 (fun g e => (h1.fk g e).imp id (fun q => q.1)))).wide (Fr.setCell w6 ⟨p, 4, none⟩ kv') (fun g e => ?_)
    rw [show g = p from e]
    exact h.fp.imp id (fun q => q.1)
theorem RefC.valuedG (h : RefC wo B p (Grew F w wo) N K V X) (hB : B ≤ w.heap.size) (hf : Fr F w wo) {vv' : Value} {x : Int} (hr : w6.ownsRow B 3 1 vv' (V.length + 1) ((V ++ [x]).map (.int .i64))) (hg : (wo.alloc o).grownBy w6 X.vv.ownBlock) (ha : ∀ g, vv'.ownBlock = some g → X.vv.ownBlock = some g ∨ (wo.alloc o).heap.size ≤ g) :
    RefC (w6.setCell ⟨p, 5, none⟩ vv') B p (Grew F w (w6.setCell ⟨p, 5, none⟩ vv')) N K (V ++ [x]) { X with vv := vv' } ∧ Fr F w (w6.setCell ⟨p, 5, none⟩ vv') := by
  have hs := hf.size
  have h1 := h.grown hf hB (Fr.alloc (fun _ => False) wo o)
  have hs1 : (wo.alloc o).heap.size = wo.heap.size + 1 := by simp
  have h2 := h1.valued (by omega) hr hg ha
  have hf1 := Fr.of_grownBy hg
  have hs2 := hf1.size
  refine ⟨h2.wide (fun k hk => grew_set.2 ?_) (fun k hk => ?_), ?_⟩
  · rcases hk with (hk | hk) | hk
    · exact .inl hk
    · exact .inr ⟨hk.1, by omega⟩
    · exact .inr ⟨by omega, hk.2⟩
  · rcases grew_set.1 hk with hk | hk
    · exact h2.lt k (.inl (.inl hk))
    · exact ⟨by omega, by rw [World.size_setCell]; exact hk.2⟩
  · refine (((hf.wide (Fr.alloc (fun _ => False) wo o) (fun _ h => h.elim)).wide hf1 (fun g e => (h1.fv g e).imp id (fun q => q.1)))).wide (Fr.setCell w6 ⟨p, 5, none⟩ vv') (fun g e => ?_)
    rw [show g = p from e]
    exact h.fp.imp id (fun q => q.1)
end
theorem info_strs : (Try.prog.info? 39).map (fun i => (i.zero, i.size, i.bytes)) = some (some (.slice none 0 0), 1, 24) := by kernel_rfl
/-- the tables are as wide as they are to be -/
def Gr (w : World) (B p : Nat) (F : Nat → Prop) (N : NM) (L : Pl) (wc : World) : Prop := ∃ X, RefC wc B p (Grew F w wc) N (L.map (·.1)) (L.map (·.2)) X ∧ Fr F w wc
theorem replicate_chain {n : Nat} {c : List ByteArray} (h : c ∈ List.replicate n ([] : List ByteArray)) : c.length = 0 := by rw [(List.mem_replicate.1 h).2]; rfl
theorem grow_chain {N : NM} {L : Pl} (h : Fit N (L.map (·.1))) (n : Nat) : ∀ c, (c ∈ (growN N n).old ∨ c ∈ (growN N n).young) → c.length ≤ L.length := by
  have h1 : ∀ c, (c ∈ N.old ∨ c ∈ N.young) → c.length ≤ L.length := fun c hc => by
    have := hc.elim (fun e => h.len_old e) (fun e => h.len_young e)
    rwa [List.length_map] at this
  intro c hc
  unfold growN at hc
  split at hc
  · rcases hc with hc | hc
    · have := replicate_chain hc; omega
    · exact h1 c (.inr hc)
  · split at hc
    · rcases hc with hc | hc
      · exact h1 c (.inl hc)
      · have := replicate_chain hc; omega
    · exact h1 c hc
theorem grow_lens (N : NM) (n : Nat) : (growN N n).old.length ≤ max N.old.length 4 ∧ (growN N n).young.length ≤ max N.young.length (2 * N.old.length) ∧ (growN N n).old ≠ [] ∧ (growN N n).seed = N.seed := by
  unfold growN
  split
  · exact ⟨by simp; omega, by simp; omega, by simp, rfl⟩
  · rename_i ho
    split
    · exact ⟨by simp; omega, by simp; omega, ho, rfl⟩
    · exact ⟨by omega, by omega, ho, rfl⟩
theorem new_fp {w w1 : World} {F : Nat → Prop} {B p : Nat} {N : NM} {K : List ByteArray} {V : List Int} {X : RB} {wc : World} (hB : B ≤ w.heap.size) (hf : Fr F w w1) (h : RefC wc B p (fun k => Grew F w w1 k ∨ k = w1.heap.size) N K V X) (hs : wc.heap.size = w1.heap.size + 1) : RefC wc B p (Grew F w wc) N K V X := by
  have hs1 := hf.size
  refine h.wide (fun k hk => ?_) (fun k hk => ?_)
  · rcases hk with (hk | hk) | hk
    · exact .inl hk
    · exact .inr ⟨hk.1, by omega⟩
    · exact .inr ⟨by omega, by omega⟩
  · rcases hk with hk | hk
    · exact h.lt k (.inl (.inl hk))
    · exact ⟨by omega, hk.2⟩
set_option maxRecDepth 100000 in
set_option maxHeartbeats 4000000 in
theorem rdSet_new (w : World) (B p : Nat) (F : Nat → Prop) (N : NM) (L : Pl) (X : RB) (key : ByteArray) (x : Int) (ha : fdG key L = none) (h : RefD w B p F N L X) (hB : B ≤ w.heap.size) (hol : N.old.length ≤ 2199023255552) (hyl : N.young.length ≤ 2199023255552) (hL : L.length ≤ 2199023255552) (hks : key.size ≤ maxLen) :
    Calls Try.prog 70 #[.pointer (some ⟨p, 0, none⟩), .string key, .int .i64 x] w fun e w' => e = .returned (.bool true) ∧ RdTo w B p F (addN (growN (stepN N) L.length) key) (L ++ [(key, x)]) w' := by
  have HS := Lib.hid (rdStep_any w B p F N L X h hB (by omega) (by omega) hL)
  have hfit := h.fit.set key false ⟨fun e => absurd e (by decide), fun hm => absurd (fdG_keys.2 hm) (by rw [ha]; decide)⟩
  have HFIT : Hid (Fit (addN (growN (stepN N) L.length) key) (L.map (·.1) ++ [key])) := by
    have h1 := hfit
    rw [List.length_map] at h1
    exact h1
  have hls : (stepN N).old.length ≤ 2199023255552 ∧ (stepN N).young.length ≤ 2199023255552 := stepN_lens hol hyl
  have HFP := Lib.hid h.c.fp
  have HKZ := Lib.hid h.ksz
  have HA := Lib.hid ha
  have e0 : idxV none = -1 := rfl
  obtain ⟨N1, hN1⟩ : ∃ N1, stepN N = N1 := ⟨_, rfl⟩
  rw [hN1] at HS hls HFIT
  rw [hN1]
  have HL1 := Lib.hid hls
  clear h hol hyl ha hfit hls hN1
  go_enter Try.func70, Try.ntmps70
  go_wp2_with fail
  refine HS.out.mono ?_
  rintro e w1 ⟨rfl, X1, D1, F1⟩
  have HI := Lib.hid (rdIndex_any w1 p L X1.kv key D1.c.cells.2.2.2.2.1 (idx_keys (RdC.of_owns D1.c.ks)))
  rw [HA.out, e0] at HI
  have HD := Lib.hid D1
  have HF := Lib.hid F1
  obtain ⟨a1, hv1⟩ := rowV_eq X1.t1 X1.r1
  obtain ⟨a2, hv2⟩ := rowV_eq X1.t2 X1.r2
  have c1 := D1.c.cells.2.1
  have c2 := D1.c.cells.2.2.1
  have c4 := D1.c.cells.2.2.2.2.1
  have z1 := D1.c.free 1
  have z2 := D1.c.free 2
  have z3 := D1.c.free 3
  rw [hv1, D1.c.row1.len] at c1
  rw [hv2, D1.c.row2.len] at c2
  obtain ⟨ka, kc, hkv⟩ := ow_sliceN D1.c.ks
  rw [hkv, List.length_map] at c4
  have hp1 := (D1.c.lt p D1.c.fp).2
  have hyo : N1.young ≠ [] → N1.old ≠ [] := fun h e => by have := D1.fit.mov h; rw [e] at this; simp at this
  have HYO := Lib.hid hyo
  obtain ⟨n1, hn1⟩ : ∃ n, N1.old.length = n := ⟨_, rfl⟩
  obtain ⟨n2, hn2⟩ : ∃ n, N1.young.length = n := ⟨_, rfl⟩
  have hls := HL1.out
  rw [hn1, hn2] at hls
  rw [hn1] at c1
  rw [hn2] at c2
  have HN1 := Lib.hid hn1
  have HN2 := Lib.hid hn2
  clear D1 F1 HS e0 hv1 hv2 hkv hyo hn1 hn2
  go_wp2_with fail
  refine HI.out.mono ?_
  rintro e w' ⟨rfl, rfl⟩
  go_upto_if 31 with (fail)
  go_cut [] from 32 to 74 (fun wc => Gr w B p F (growN N1 L.length) L wc)
  case first =>
    by_cases hz : n1 = 0
    · have HO : Hid (N1.old = []) := List.length_eq_zero_iff.1 (by rw [HN1.out, hz])
      have HY : Hid (N1.young = []) := by
        show N1.young = []
        cases hy : N1.young with
        | nil => rfl
        | cons a l => exact absurd HO.out (HYO.out (by rw [hy]; simp))
      subst hz
      have hmk : ∀ w : World, (Instr.makeSlice 81 (.int .i64 4) (.int .i64 4)).run Try.prog w = .ok (.slice (some ⟨w.heap.size, 0, none⟩) 4 4) (w.alloc (.cells #[.slice none 0 0, .slice none 0 0, .slice none 0 0, .slice none 0 0] 39)) :=
        fun w => mk_gen (P := Try.prog) 81 39 _ _ (.slice none 0 0) (by kernel_rfl) rfl rfl rfl rfl 4 (by decide) (by decide) w
      go_wp2_with fail
      go_meet
      case rel =>
        have h1 := HD.out.c.new1 (Nat.le_trans hB HF.out.size) HO.out HY.out 4 (by decide)
        rw [World.setCell_alloc_past _ _ _ _ hp1] at h1
        have hg : growN N1 L.length = { N1 with old := List.replicate 4 [] } := by unfold growN; rw [if_pos HO.out]
        rw [hg]
        refine ⟨_, new_fp hB HF.out h1 (by simp), ?_⟩
        exact (HF.out.thenSet _ _ (fun _ => HFP.out)).thenAlloc _
    · have HO : Hid (¬ N1.old = []) := fun e => hz (by have := HN1.out; rw [e] at this; exact this.symm)
      have g0 : ((n1 : Int) == 0) = false := beq_eq_false_iff_ne.2 (by omega)
      by_cases hy : n2 = 0
      · have HY : Hid (N1.young = []) := List.length_eq_zero_iff.1 (by rw [HN2.out, hy])
        subst hy
        by_cases hg : n1 ≤ L.length
        · have g1 : decide (n1 ≤ L.length) = true := decide_eq_true hg
          have HG := Lib.hid hg
          have e1 : IntKind.i64.wrap (2 * (n1 : Int)) = 2 * (n1 : Int) := IntWalk.i64_in _ (by omega)
          have hmk : ∀ w : World, (Instr.makeSlice 81 (.int .i64 (2 * (n1 : Int))) (.int .i64 (2 * (n1 : Int)))).run Try.prog w = .ok (.slice (some ⟨w.heap.size, 0, none⟩) (2 * n1) (2 * n1)) (w.alloc (.cells (List.replicate (2 * n1) (.slice none 0 0)).toArray 39)) := fun w => by
            have := mk_gen (P := Try.prog) 81 39 _ _ (.slice none 0 0) (by kernel_rfl) rfl rfl rfl rfl (2 * n1) (by show 24 * (2 * n1) ≤ _; omega) (by omega) w
            rw [Int.natCast_mul] at this
            exact this
          have fq2 : ∀ n o, ((w1.drewN n).alloc o).frozen? ⟨p, 2, none⟩ = false := fun n o => free_of_blk (alloc_old (w := w1.drewN n) HD.out.c.blk) 2
          have cq2 : ∀ n o, ((w1.drewN n).alloc o).cell? ⟨p, 2, none⟩ = some (rowV X1.t2 X1.r2) := fun n o => cell_of_blk (alloc_old (w := w1.drewN n) HD.out.c.blk) 2
          have fq3 : ∀ n o, ((w1.drewN n).alloc o).frozen? ⟨p, 3, none⟩ = false := fun n o => free_of_blk (alloc_old (w := w1.drewN n) HD.out.c.blk) 3
          have cq3 : ∀ n o, ((w1.drewN n).alloc o).cell? ⟨p, 3, none⟩ = some (.int .i64 N1.at_) := fun n o => cell_of_blk (alloc_old (w := w1.drewN n) HD.out.c.blk) 3
          clear hg
          go_wp2_with fail
          go_quiet (fail)
          go_wp2_with fail
          go_meet
          case rel =>
            have hg : growN N1 L.length = { N1 with young := List.replicate (2 * n1) [], at_ := 0 } := by unfold growN; rw [if_neg HO.out, if_pos ⟨HY.out, by rw [HN1.out]; exact HG.out⟩, HN1.out]
            rw [hg]
            have h1 := RefC.new2 (HD.out.c.quiet (Fr.drewN (fun _ => False) w1 nq)) (Nat.le_trans hB HF.out.size) (2 * n1) (by omega)
            try simp only [List.toArray_replicate] at h1
            refine ⟨_, new_fp hB HF.out h1 (by simp), ?_⟩
            exact (((HF.out.thenDrewN _).thenAlloc _).thenSet _ _ (fun _ => HFP.out)).thenSet _ _ (fun _ => HFP.out)
        · have g1 : decide (n1 ≤ L.length) = false := decide_eq_false hg
          have HG := Lib.hid hg
          clear hg
          go_wp2_with fail
          go_quiet (fail)
          go_wp2_with fail
          go_meet
          case rel =>
            have hg : growN N1 L.length = N1 := by unfold growN; rw [if_neg HO.out, if_neg (fun e => HG.out (by rw [← HN1.out]; exact e.2))]
            rw [hg]
            exact ⟨X1, (HD.out.c.quiet (Fr.drewN _ _ _)).wide (fun _ h => h) (fun k hk => HD.out.c.lt k hk), HF.out.thenDrewN _⟩
      · have g1 : ((n2 : Int) == 0) = false := beq_eq_false_iff_ne.2 (by omega)
        have HY : Hid (¬ N1.young = []) := fun e => hy (by have := HN2.out; rw [e] at this; exact this.symm)
        go_wp2_with fail
        go_quiet (fail)
        go_wp2_with fail
        go_meet
        case rel =>
          have hg : growN N1 L.length = N1 := by unfold growN; rw [if_neg HO.out, if_neg (fun e => HY.out e.1)]
          rw [hg]
          exact ⟨X1, (HD.out.c.quiet (Fr.drewN _ _ _)).wide (fun _ h => h) (fun k hk => HD.out.c.lt k hk), HF.out.thenDrewN _⟩
  case rest =>
    obtain ⟨X2, hc2, hf2⟩ := hcut
    obtain ⟨hg1, hg2, hg3, hg4⟩ := grow_lens N1 L.length
    obtain ⟨N2, hN2⟩ : ∃ N2, growN N1 L.length = N2 := ⟨_, rfl⟩
    have HCL : Hid (∀ (c : List ByteArray), (c ∈ N2.old ∨ c ∈ N2.young) → c.length ≤ L.length) := by
      rw [← hN2]
      exact grow_chain HD.out.fit L.length
    rw [hN2] at hc2 hg1 hg2 hg3 hg4 HFIT
    have HN := Lib.hid hN2
    have HC2 := Lib.hid hc2
    have HF2 := Lib.hid hf2
    have HON : Hid (N2.old ≠ []) := hg3
    have HLN : Hid (N2.old.length ≤ 4398046511104 ∧ N2.young.length ≤ 4398046511104) := ⟨by have := HL1.out; omega, by have := HL1.out; omega⟩
    obtain ⟨b2, hv2⟩ := rowV_eq X2.t2 X2.r2
    have d2 := hc2.cells.2.2.1
    rw [hv2, hc2.row2.len] at d2
    obtain ⟨m2, hm2⟩ : ∃ n, N2.young.length = n := ⟨_, rfl⟩
    rw [hm2] at d2
    have HM2 := Lib.hid hm2
    clear hc2 hf2 hg1 hg2 hg3 hg4 hN2 hv2 hm2 c1 c2 c4 z1 z2 z3
    go_upto_if 73 with (fail)
    go_cut [] from 73 to 118 (fun wc => Gr w B p F (addN N2 key) L wc)
    case first =>
      by_cases hy : 0 < m2
      · have g1 : decide ((0 : Int) < (m2 : Int)) = true := decide_eq_true (by omega)
        have g1' : decide (0 < m2) = true := decide_eq_true hy
        have HYN : Hid (N2.young ≠ []) := fun e => by have := HM2.out; rw [e] at this; simp at this; omega
        have hlen : X2.r2.length = N2.young.length := HC2.out.row2.len
        have hrne : X2.r2 ≠ [] := rowsV_ne HC2.out.row2 (HYN.out)
        have hpos : 0 < X2.r2.length := List.length_pos_iff.2 hrne
        have f0 := HC2.out.cells.1
        have hil := slotOf_lt N2.seed X2.r2.length key hpos
        obtain ⟨i, hi⟩ : ∃ i, slotOf N2.seed X2.r2.length key = i := ⟨_, rfl⟩
        rw [hi] at hil
        obtain ⟨c, hc⟩ : ∃ c, N2.young[i]? = some c := ⟨_, List.getElem?_eq_getElem (by omega)⟩
        obtain ⟨a2, c2, hpf, hrd⟩ := HC2.out.putF2 hc
        have HPF := Lib.hid hpf
        have f2d := hpf.cp
        have hct := hpf.ct
        have hcl : c.length ≤ 4398046511104 := by have := HCL.out c (.inr (List.mem_of_getElem? hc)); omega
        have HPL := Lib.hid (rdPlace_any wc p (some ⟨X2.t2, 0, none⟩) X2.r2.length X2.r2.length N2.seed key f0 hpos (by have := HLN.out; omega) hks)
        rw [hi] at HPL
        have HAH : Hid (∀ W, Fr (fun _ => False) wc W → Calls Try.prog 137 #[.string key, .slice a2 c.length c2] W fun e w' => ∃ u, e = .returned u ∧ RowS W.heap.size w' u (key :: c) ∧ Fr (fun _ => False) W w') :=
          fun W hf => rdAhead_any W _ c key (hrd.fr hf (fun _ _ h => h)) hcl
        have hq0 : Fr (fun _ => False) wc wc.drew := Fr.drew _ _
        have HMV : Hid (∀ w5 u, Fr (fun _ => False) wc.drew w5 → RowS wc.drew.heap.size w5 u (key :: c) → Gr w B p F (addN N2 key) L (w5.setCell ⟨X2.t2, i, none⟩ u)) := fun w5 u h1 h2 => by
          have hg : addN N2 key = { N2 with young := N2.young.set i (key :: c) } := by
            unfold addN
            rw [if_neg HYN.out, hangN_eq N2.seed N2.young key c (by rw [← hlen, hi]; exact hc), ← hlen, hi]
          rw [hg]
          obtain ⟨h3, h4⟩ := RefC.lay2 hB HC2.out HF2.out hc (hq0.trans h1 (fun _ h _ => h)) h2
          exact ⟨_, h3, h4⟩
        have b4 : (0 : Int) ≤ (i : Int) := by omega
        have b5 : (i : Int) < (X2.r2.length : Int) := by omega
        clear hlen hrne hi hc hpf hrd hcl d2
        go_wp2_with fail
        refine HPL.out.mono ?_
        rintro e w' ⟨rfl, rfl⟩
        go_upto_region 15 with (fail)
        refine wp_region_held_drew (S := (fun w' => w'.cell? ⟨p, 2, none⟩ = some (.slice (some ⟨X2.t2, 0, none⟩) X2.r2.length X2.r2.length))) (by kernel_rfl) ?_ (fun hHeld => ?_)
        · exact f2d
        refine takeH (i := 0) (d := 81) (v := ?va0) rfl (by kernel_rfl) (by kernel_rfl) (by kernel_rfl) (by kernel_rfl) (fun _ _ _ h => h) (Or.inl ⟨by kernel_rfl, ?hya0⟩) hHeld ?resta0
        case hya0 =>
          intro w hSw
          try dsimp only at hSw
          first | (go_simp; done) | (go_simp; with_reducible rfl)
        try simp only [Act.put, List.setIfInBounds_toArray, List.set_cons_zero, List.set_cons_succ]
        refine takeH (i := 1) (d := 82) (v := ?va1) rfl (by kernel_rfl) (by kernel_rfl) (by kernel_rfl) (by kernel_rfl) (fun _ _ _ h => h) (Or.inl ⟨by kernel_rfl, ?hya1⟩) hHeld ?resta1
        case hya1 =>
          intro w hSw
          try dsimp only at hSw
          first | (go_simp; done) | (go_simp; with_reducible rfl)
        try simp only [Act.put, List.setIfInBounds_toArray, List.set_cons_zero, List.set_cons_succ]
        refine takeH (i := 2) (d := 83) (v := ?va2) rfl (by kernel_rfl) (by kernel_rfl) (by kernel_rfl) (by kernel_rfl) (fun _ _ _ h => h) (Or.inl ⟨by kernel_rfl, ?hya2⟩) hHeld ?resta2
        case hya2 =>
          intro w hSw
          try dsimp only at hSw
          first | (go_simp; done) | (go_simp; with_reducible rfl)
        try simp only [Act.put, List.setIfInBounds_toArray, List.set_cons_zero, List.set_cons_succ]
        refine takeH (i := 3) (d := 84) (v := ?va3) rfl (by kernel_rfl) (by kernel_rfl) (by kernel_rfl) (by kernel_rfl) (fun _ _ _ h => h) (Or.inl ⟨by kernel_rfl, ?hya3⟩) hHeld ?resta3
        case hya3 =>
          intro w hSw
          try dsimp only at hSw
          first | (go_simp; done) | (go_simp; with_reducible rfl)
        try simp only [Act.put, List.setIfInBounds_toArray, List.set_cons_zero, List.set_cons_succ]
        refine takeH (i := 4) (d := 85) (v := ?va4) rfl (by kernel_rfl) (by kernel_rfl) (by kernel_rfl) (by kernel_rfl) (fun _ _ _ h => h) (Or.inl ⟨by kernel_rfl, ?hya4⟩) hHeld ?resta4
        case hya4 =>
          intro w hSw
          try dsimp only at hSw
          first | (go_simp; done) | (go_simp; with_reducible rfl)
        try simp only [Act.put, List.setIfInBounds_toArray, List.set_cons_zero, List.set_cons_succ]
        refine takeH (i := 5) (d := 86) (v := ?va5) rfl (by kernel_rfl) (by kernel_rfl) (by kernel_rfl) (by kernel_rfl) (fun _ _ _ h => h) (Or.inl ⟨by kernel_rfl, ?hya5⟩) hHeld ?resta5
        case hya5 =>
          intro w hSw
          try dsimp only at hSw
          first | (go_simp; done) | (go_simp; with_reducible rfl)
        try simp only [Act.put, List.setIfInBounds_toArray, List.set_cons_zero, List.set_cons_succ]
        refine takeH (i := 6) (d := 87) (v := ?va6) rfl (by kernel_rfl) (by kernel_rfl) (by kernel_rfl) (by kernel_rfl) (fun _ _ _ h => h) (Or.inl ⟨by kernel_rfl, ?hya6⟩) hHeld ?resta6
        case hya6 =>
          intro w hSw
          try dsimp only at hSw
          first | (go_simp; done) | (go_simp; with_reducible rfl)
        try simp only [Act.put, List.setIfInBounds_toArray, List.set_cons_zero, List.set_cons_succ]
        refine takeH (i := 7) (d := 88) (v := ?va7) rfl (by kernel_rfl) (by kernel_rfl) (by kernel_rfl) (by kernel_rfl) (fun _ _ _ h => h) (Or.inl ⟨by kernel_rfl, ?hya7⟩) hHeld ?resta7
        case hya7 =>
          intro w hSw
          try dsimp only at hSw
          first | (go_simp; done) | (go_simp; with_reducible rfl)
        try simp only [Act.put, List.setIfInBounds_toArray, List.set_cons_zero, List.set_cons_succ]
        refine takeH (i := 8) (d := 89) (v := ?va8) rfl (by kernel_rfl) (by kernel_rfl) (by kernel_rfl) (by kernel_rfl) (fun _ _ _ h => h) (Or.inl ⟨by kernel_rfl, ?hya8⟩) hHeld ?resta8
        case hya8 =>
          intro w hSw
          try dsimp only at hSw
          first | (go_simp; done) | (go_simp; with_reducible rfl)
        try simp only [Act.put, List.setIfInBounds_toArray, List.set_cons_zero, List.set_cons_succ]
        refine takeH (i := 9) (d := 90) (v := ?va9) rfl (by kernel_rfl) (by kernel_rfl) (by kernel_rfl) (by kernel_rfl) (fun _ _ _ h => h) (Or.inl ⟨by kernel_rfl, ?hya9⟩) hHeld ?resta9
        case hya9 =>
          intro w hSw
          try dsimp only at hSw
          first | (go_simp; done) | (go_simp; with_reducible rfl)
        try simp only [Act.put, List.setIfInBounds_toArray, List.set_cons_zero, List.set_cons_succ]
        refine takeH (i := 10) (d := 91) (v := ?va10) rfl (by kernel_rfl) (by kernel_rfl) (by kernel_rfl) (by kernel_rfl) (fun _ _ _ h => h) (Or.inl ⟨by kernel_rfl, ?hya10⟩) hHeld ?resta10
        case hya10 =>
          intro w hSw
          try dsimp only at hSw
          first | (go_simp; done) | (go_simp; with_reducible rfl)
        try simp only [Act.put, List.setIfInBounds_toArray, List.set_cons_zero, List.set_cons_succ]
        refine takeH (i := 11) (d := 92) (v := ?va11) rfl (by kernel_rfl) (by kernel_rfl) (by kernel_rfl) (by kernel_rfl) (fun _ _ _ h => h) (Or.inl ⟨by kernel_rfl, ?hya11⟩) hHeld ?resta11
        case hya11 =>
          intro w hSw
          try dsimp only at hSw
          first | (go_simp; done) | (go_simp; with_reducible rfl)
        try simp only [Act.put, List.setIfInBounds_toArray, List.set_cons_zero, List.set_cons_succ]
        refine wpAnyH_ready (rs := [12]) (by kernel_rfl) (by simp) ?_
        refine AllReadyH.cons rfl (fun K hK => ?_) AllReadyH.nil
        have HH := Lib.hid hHeld
        clear hHeld
        go_simp
        refine hK.out _ _ ?_ (fun hNew => ?_)
        · exact f2d
        clear hK K HH
        have hHeld := hNew
        clear hNew
        try simp only [Act.put, List.setIfInBounds_toArray, List.set_cons_zero, List.set_cons_succ]
        refine wpAnyH_ready (rs := [13]) (by kernel_rfl) (by simp) ?_
        refine AllReadyH.cons rfl (fun K hK => ?_) AllReadyH.nil
        have HH := Lib.hid hHeld
        clear hHeld
        go_simp
        refine (HAH.out _ hq0).mono ?_
        rintro e w5 ⟨u, rfl, hru, hfq⟩
        obtain ⟨ua, uc, rfl⟩ := ow_sliceN hru
        have HRU := Lib.hid hru
        have HFQ := Lib.hid hfq
        have hz5 : w5.frozen? ⟨X2.t2, i, none⟩ = false := (HPF.out.hold w5 hfq).1
        have hc5 : w5.cell? ⟨X2.t2, i, none⟩ = some (.slice a2 c.length c2) := (HPF.out.hold w5 hfq).2.1
        clear hru hfq
        refine hK.out _ _ ?_ (fun hNew => ?_)
        · exact (HPF.out.hold w5 HFQ.out).2.2.1
        clear hK K HH
        have hHeld := hNew
        clear hNew
        try simp only [Act.put, List.setIfInBounds_toArray, List.set_cons_zero, List.set_cons_succ]
        refine wpAnyH_ready (rs := [14]) (by kernel_rfl) (by simp) ?_
        refine AllReadyH.cons rfl (fun K hK => ?_) AllReadyH.nil
        have HH := Lib.hid hHeld
        clear hHeld
        go_simp
        refine hK.out _ _ ?_ (fun hNew => ?_)
        · exact (HPF.out.hold w5 HFQ.out).2.2.1
        clear hK K HH
        have hHeld := hNew
        clear hNew
        try simp only [Act.put, List.setIfInBounds_toArray, List.set_cons_zero, List.set_cons_succ]
        refine wpAnyH_ready (rs := [15]) (by kernel_rfl) (by simp) ?_
        refine AllReadyH.cons rfl (fun K hK => ?_) AllReadyH.nil
        have HH := Lib.hid hHeld
        clear hHeld
        go_simp
        refine hK.out _ _ ?_ (fun hNew => ?_)
        · exact (HPF.out.hold w5 HFQ.out).2.2.2 _
        clear hK K HH
        have hHeld := hNew
        clear hNew
        try simp only [Act.put, List.setIfInBounds_toArray, List.set_cons_zero, List.set_cons_succ]
        refine wpAnyH_done (by kernel_rfl) ?_ _
        go_wp2
        go_meet
        case rel => exact HMV.out _ _ HFQ.out HRU.out
      · obtain rfl : m2 = 0 := by omega
        have g1 : decide ((0 : Int) < ((0 : Nat) : Int)) = false := rfl
        have HYN : Hid (N2.young = []) := List.length_eq_zero_iff.1 HM2.out
        have hlen : X2.r1.length = N2.old.length := HC2.out.row1.len
        have hrne : X2.r1 ≠ [] := rowsV_ne HC2.out.row1 (HON.out)
        have hpos : 0 < X2.r1.length := List.length_pos_iff.2 hrne
        have f0 := HC2.out.cells.1
        have hil := slotOf_lt N2.seed X2.r1.length key hpos
        obtain ⟨i, hi⟩ : ∃ i, slotOf N2.seed X2.r1.length key = i := ⟨_, rfl⟩
        rw [hi] at hil
        obtain ⟨c, hc⟩ : ∃ c, N2.old[i]? = some c := ⟨_, List.getElem?_eq_getElem (by omega)⟩
        obtain ⟨a2, c2, hpf, hrd⟩ := HC2.out.putF1 hc
        have HPF := Lib.hid hpf
        have f2d := hpf.cp
        have hct := hpf.ct
        have hcl : c.length ≤ 4398046511104 := by have := HCL.out c (.inl (List.mem_of_getElem? hc)); omega
        have HPL := Lib.hid (rdPlace_any wc p (some ⟨X2.t1, 0, none⟩) X2.r1.length X2.r1.length N2.seed key f0 hpos (by have := HLN.out; omega) hks)
        rw [hi] at HPL
        have HAH : Hid (∀ W, Fr (fun _ => False) wc W → Calls Try.prog 137 #[.string key, .slice a2 c.length c2] W fun e w' => ∃ u, e = .returned u ∧ RowS W.heap.size w' u (key :: c) ∧ Fr (fun _ => False) W w') :=
          fun W hf => rdAhead_any W _ c key (hrd.fr hf (fun _ _ h => h)) hcl
        have hq0 : Fr (fun _ => False) wc wc.drew := Fr.drew _ _
        have HMV : Hid (∀ w5 u, Fr (fun _ => False) wc.drew w5 → RowS wc.drew.heap.size w5 u (key :: c) → Gr w B p F (addN N2 key) L (w5.setCell ⟨X2.t1, i, none⟩ u)) := fun w5 u h1 h2 => by
          have hg : addN N2 key = { N2 with old := N2.old.set i (key :: c) } := by
            unfold addN
            rw [if_pos HYN.out, hangN_eq N2.seed N2.old key c (by rw [← hlen, hi]; exact hc), ← hlen, hi]
          rw [hg]
          obtain ⟨h3, h4⟩ := RefC.lay1 hB HC2.out HF2.out hc (hq0.trans h1 (fun _ h _ => h)) h2
          exact ⟨_, h3, h4⟩
        have b4 : (0 : Int) ≤ (i : Int) := by omega
        have b5 : (i : Int) < (X2.r1.length : Int) := by omega
        clear hlen hrne hi hc hpf hrd hcl d2
        go_wp2_with fail
        refine HPL.out.mono ?_
        rintro e w' ⟨rfl, rfl⟩
        go_upto_region 17 with (fail)
        refine wp_region_held_drew (S := (fun w' => w'.cell? ⟨p, 1, none⟩ = some (.slice (some ⟨X2.t1, 0, none⟩) X2.r1.length X2.r1.length))) (by kernel_rfl) ?_ (fun hHeld => ?_)
        · exact f2d
        refine takeH (i := 0) (d := 103) (v := ?vb0) rfl (by kernel_rfl) (by kernel_rfl) (by kernel_rfl) (by kernel_rfl) (fun _ _ _ h => h) (Or.inl ⟨by kernel_rfl, ?hyb0⟩) hHeld ?restb0
        case hyb0 =>
          intro w hSw
          try dsimp only at hSw
          first | (go_simp; done) | (go_simp; with_reducible rfl)
        try simp only [Act.put, List.setIfInBounds_toArray, List.set_cons_zero, List.set_cons_succ]
        refine takeH (i := 1) (d := 104) (v := ?vb1) rfl (by kernel_rfl) (by kernel_rfl) (by kernel_rfl) (by kernel_rfl) (fun _ _ _ h => h) (Or.inl ⟨by kernel_rfl, ?hyb1⟩) hHeld ?restb1
        case hyb1 =>
          intro w hSw
          try dsimp only at hSw
          first | (go_simp; done) | (go_simp; with_reducible rfl)
        try simp only [Act.put, List.setIfInBounds_toArray, List.set_cons_zero, List.set_cons_succ]
        refine takeH (i := 2) (d := 105) (v := ?vb2) rfl (by kernel_rfl) (by kernel_rfl) (by kernel_rfl) (by kernel_rfl) (fun _ _ _ h => h) (Or.inl ⟨by kernel_rfl, ?hyb2⟩) hHeld ?restb2
        case hyb2 =>
          intro w hSw
          try dsimp only at hSw
          first | (go_simp; done) | (go_simp; with_reducible rfl)
        try simp only [Act.put, List.setIfInBounds_toArray, List.set_cons_zero, List.set_cons_succ]
        refine takeH (i := 3) (d := 106) (v := ?vb3) rfl (by kernel_rfl) (by kernel_rfl) (by kernel_rfl) (by kernel_rfl) (fun _ _ _ h => h) (Or.inl ⟨by kernel_rfl, ?hyb3⟩) hHeld ?restb3
        case hyb3 =>
          intro w hSw
          try dsimp only at hSw
          first | (go_simp; done) | (go_simp; with_reducible rfl)
        try simp only [Act.put, List.setIfInBounds_toArray, List.set_cons_zero, List.set_cons_succ]
        refine takeH (i := 4) (d := 107) (v := ?vb4) rfl (by kernel_rfl) (by kernel_rfl) (by kernel_rfl) (by kernel_rfl) (fun _ _ _ h => h) (Or.inl ⟨by kernel_rfl, ?hyb4⟩) hHeld ?restb4
        case hyb4 =>
          intro w hSw
          try dsimp only at hSw
          first | (go_simp; done) | (go_simp; with_reducible rfl)
        try simp only [Act.put, List.setIfInBounds_toArray, List.set_cons_zero, List.set_cons_succ]
        refine takeH (i := 5) (d := 108) (v := ?vb5) rfl (by kernel_rfl) (by kernel_rfl) (by kernel_rfl) (by kernel_rfl) (fun _ _ _ h => h) (Or.inl ⟨by kernel_rfl, ?hyb5⟩) hHeld ?restb5
        case hyb5 =>
          intro w hSw
          try dsimp only at hSw
          first | (go_simp; done) | (go_simp; with_reducible rfl)
        try simp only [Act.put, List.setIfInBounds_toArray, List.set_cons_zero, List.set_cons_succ]
        refine takeH (i := 6) (d := 109) (v := ?vb6) rfl (by kernel_rfl) (by kernel_rfl) (by kernel_rfl) (by kernel_rfl) (fun _ _ _ h => h) (Or.inl ⟨by kernel_rfl, ?hyb6⟩) hHeld ?restb6
        case hyb6 =>
          intro w hSw
          try dsimp only at hSw
          first | (go_simp; done) | (go_simp; with_reducible rfl)
        try simp only [Act.put, List.setIfInBounds_toArray, List.set_cons_zero, List.set_cons_succ]
        refine takeH (i := 7) (d := 110) (v := ?vb7) rfl (by kernel_rfl) (by kernel_rfl) (by kernel_rfl) (by kernel_rfl) (fun _ _ _ h => h) (Or.inl ⟨by kernel_rfl, ?hyb7⟩) hHeld ?restb7
        case hyb7 =>
          intro w hSw
          try dsimp only at hSw
          first | (go_simp; done) | (go_simp; with_reducible rfl)
        try simp only [Act.put, List.setIfInBounds_toArray, List.set_cons_zero, List.set_cons_succ]
        refine takeH (i := 8) (d := 111) (v := ?vb8) rfl (by kernel_rfl) (by kernel_rfl) (by kernel_rfl) (by kernel_rfl) (fun _ _ _ h => h) (Or.inl ⟨by kernel_rfl, ?hyb8⟩) hHeld ?restb8
        case hyb8 =>
          intro w hSw
          try dsimp only at hSw
          first | (go_simp; done) | (go_simp; with_reducible rfl)
        try simp only [Act.put, List.setIfInBounds_toArray, List.set_cons_zero, List.set_cons_succ]
        refine takeH (i := 9) (d := 112) (v := ?vb9) rfl (by kernel_rfl) (by kernel_rfl) (by kernel_rfl) (by kernel_rfl) (fun _ _ _ h => h) (Or.inl ⟨by kernel_rfl, ?hyb9⟩) hHeld ?restb9
        case hyb9 =>
          intro w hSw
          try dsimp only at hSw
          first | (go_simp; done) | (go_simp; with_reducible rfl)
        try simp only [Act.put, List.setIfInBounds_toArray, List.set_cons_zero, List.set_cons_succ]
        refine takeH (i := 10) (d := 113) (v := ?vb10) rfl (by kernel_rfl) (by kernel_rfl) (by kernel_rfl) (by kernel_rfl) (fun _ _ _ h => h) (Or.inl ⟨by kernel_rfl, ?hyb10⟩) hHeld ?restb10
        case hyb10 =>
          intro w hSw
          try dsimp only at hSw
          first | (go_simp; done) | (go_simp; with_reducible rfl)
        try simp only [Act.put, List.setIfInBounds_toArray, List.set_cons_zero, List.set_cons_succ]
        refine takeH (i := 11) (d := 114) (v := ?vb11) rfl (by kernel_rfl) (by kernel_rfl) (by kernel_rfl) (by kernel_rfl) (fun _ _ _ h => h) (Or.inl ⟨by kernel_rfl, ?hyb11⟩) hHeld ?restb11
        case hyb11 =>
          intro w hSw
          try dsimp only at hSw
          first | (go_simp; done) | (go_simp; with_reducible rfl)
        try simp only [Act.put, List.setIfInBounds_toArray, List.set_cons_zero, List.set_cons_succ]
        refine wpAnyH_ready (rs := [12]) (by kernel_rfl) (by simp) ?_
        refine AllReadyH.cons rfl (fun K hK => ?_) AllReadyH.nil
        have HH := Lib.hid hHeld
        clear hHeld
        go_simp
        refine hK.out _ _ ?_ (fun hNew => ?_)
        · exact f2d
        clear hK K HH
        have hHeld := hNew
        clear hNew
        try simp only [Act.put, List.setIfInBounds_toArray, List.set_cons_zero, List.set_cons_succ]
        refine wpAnyH_ready (rs := [13]) (by kernel_rfl) (by simp) ?_
        refine AllReadyH.cons rfl (fun K hK => ?_) AllReadyH.nil
        have HH := Lib.hid hHeld
        clear hHeld
        go_simp
        refine (HAH.out _ hq0).mono ?_
        rintro e w5 ⟨u, rfl, hru, hfq⟩
        obtain ⟨ua, uc, rfl⟩ := ow_sliceN hru
        have HRU := Lib.hid hru
        have HFQ := Lib.hid hfq
        have hz5 : w5.frozen? ⟨X2.t1, i, none⟩ = false := (HPF.out.hold w5 hfq).1
        have hc5 : w5.cell? ⟨X2.t1, i, none⟩ = some (.slice a2 c.length c2) := (HPF.out.hold w5 hfq).2.1
        clear hru hfq
        refine hK.out _ _ ?_ (fun hNew => ?_)
        · exact (HPF.out.hold w5 HFQ.out).2.2.1
        clear hK K HH
        have hHeld := hNew
        clear hNew
        try simp only [Act.put, List.setIfInBounds_toArray, List.set_cons_zero, List.set_cons_succ]
        refine wpAnyH_ready (rs := [14]) (by kernel_rfl) (by simp) ?_
        refine AllReadyH.cons rfl (fun K hK => ?_) AllReadyH.nil
        have HH := Lib.hid hHeld
        clear hHeld
        go_simp
        refine hK.out _ _ ?_ (fun hNew => ?_)
        · exact (HPF.out.hold w5 HFQ.out).2.2.1
        clear hK K HH
        have hHeld := hNew
        clear hNew
        try simp only [Act.put, List.setIfInBounds_toArray, List.set_cons_zero, List.set_cons_succ]
        refine wpAnyH_ready (rs := [15]) (by kernel_rfl) (by simp) ?_
        refine AllReadyH.cons rfl (fun K hK => ?_) AllReadyH.nil
        have HH := Lib.hid hHeld
        clear hHeld
        go_simp
        refine hK.out _ _ ?_ (fun hNew => ?_)
        · exact (HPF.out.hold w5 HFQ.out).2.2.2 _
        clear hK K HH
        have hHeld := hNew
        clear hNew
        try simp only [Act.put, List.setIfInBounds_toArray, List.set_cons_zero, List.set_cons_succ]
        refine wpAnyH_done (by kernel_rfl) ?_ _
        go_wp2
        go_meet
        case rel => exact HMV.out _ _ HFQ.out HRU.out
    case rest =>
      obtain ⟨X3, hc3, hf3⟩ := hcut
      have HC3 := Lib.hid hc3
      have HF3 := Lib.hid hf3
      have d4 := hc3.cells.2.2.2.2.1
      obtain ⟨ka3, kc3, hkv3⟩ := ow_sliceN hc3.ks
      rw [List.length_map] at hkv3
      rw [hkv3] at d4
      have hks3 := hc3.ks
      rw [hkv3, List.length_map] at hks3
      have HKS := Lib.hid hks3
      have HKV := Lib.hid hkv3
      obtain ⟨i0, hi, hz0, hz1, hz2⟩ := info_parts info_str
      have HI := Lib.hid hi
      have HZ0 := Lib.hid hz0
      have HZ1 := Lib.hid hz1
      have HZ2 := Lib.hid hz2
      obtain ⟨j0, hj, hy0, hy1, hy2⟩ := info_parts info_int
      have HJ := Lib.hid hj
      have HY0 := Lib.hid hy0
      have HY1 := Lib.hid hy1
      have HY2 := Lib.hid hy2
      have HBW : Hid (B ≤ wc.heap.size) := Nat.le_trans hB hf3.size
      clear hc3 hf3 hkv3 hks3 hi hz0 hz1 hz2 hj hy0 hy1 hy2 d2 HF2 HC2
      obtain ⟨va3, vc3, hvv3⟩ := ow_sliceN HC3.out.vs
      rw [List.length_map] at hvv3
      have HVV := Lib.hid hvv3
      have HVS : Hid (∀ W K X', RefC W B p (Grew F w W) (addN N2 key) K (L.map (·.2)) X' → X'.vv = X3.vv → W.ownsRow B 3 1 (.slice va3 L.length vc3) L.length ((L.map (·.2)).map (.int .i64))) := fun W K X' h e => by
        have h1 := h.vs
        rw [e, HVV.out, List.length_map] at h1
        exact h1
      have HZP : Hid (∀ W K V X', RefC W B p (Grew F w W) (addN N2 key) K V X' → B ≤ W.heap.size ∧ p < W.heap.size) := fun W K V X' h => ⟨by have := h.lt p h.fp; omega, (h.lt p h.fp).2⟩
      clear hvv3
      go_wp2_with (first | (at_builtin; refine wpl_append2 rfl (.tmp 122) (.tmp 124) 39 rfl B 9 i0 (.string ⟨#[]⟩) 1 16 Try.underlying39 HI.out HZ0.out HZ1.out HZ2.out rfl (by decide) (.slice ka3 L.length kc3) L.length _ rfl (HKS.out.alloc _) _ 1 [.string key] rfl (RdC.of_owns (World.ownsRow_lit (base := wc.heap.size) (e := 9) (size := 1) wc #[.string key] 1 (Nat.le_refl _) (by decide) rfl)) (by simp [Value.oneCell']) (by unfold maxLen; omega) (by omega) (by rw [World.size_alloc]; have := HBW.out; omega) ?_; intro vk w6 hown hgrow hap; obtain ⟨vka, vkc, rfl⟩ := ow_sliceN hown; have hb6 := HC3.out.grownBlk (v := X3.kv) (by intro g hg e; subst e; exact absurd rfl ((own_blk HC3.out.ks hg).2.2.ne HC3.out.bp (by decide))) (by rw [HKV.out]; exact hgrow); have k4 := cell_of_blk hb6 4; have l4 := free_of_blk hb6 4; have k5 : w6.cell? ⟨p, 5, none⟩ = some (.slice va3 L.length vc3) := (cell_of_blk hb6 5).trans (congrArg some HVV.out); have l5 := free_of_blk hb6 5; have HK6 := Lib.hid (HC3.out.keyedG hB HF3.out (by rw [List.length_map, List.map_append]; exact hown) (by rw [HKV.out]; exact hgrow) (by rw [HKV.out]; exact hap)); clear hown hgrow hap hb6) | (at_builtin; refine wpl_append2 rfl (.tmp 132) (.tmp 134) 106 rfl B 3 j0 (.int .i64 0) 1 8 Try.underlying106 HJ.out HY0.out HY1.out HY2.out rfl (by decide) (.slice va3 L.length vc3) L.length _ rfl ((HVS.out _ _ _ HK6.out.1 rfl).alloc _) (.slice (some ⟨w6.heap.size, 0, none⟩) 1 1) 1 [.int .i64 x] rfl (by have q := World.ownsRow_lit (base := w6.heap.size) (e := 3) (size := 1) (w6.setCell ⟨p, 4, none⟩ (.slice vka (L.length + 1) vkc)) #[.int .i64 x] 1 (by rw [World.size_setCell]; exact Nat.le_refl _) (by decide) rfl; rw [World.size_setCell] at q; exact RdC.of_owns q) (by simp [Value.oneCell']) (by unfold maxLen; omega) (by omega) (by rw [World.size_alloc]; have := (HZP.out _ _ _ _ HK6.out.1).1; omega) ?_; intro vv w7 hown hgrow hap; obtain ⟨vva, vvc, rfl⟩ := ow_sliceN hown; have hb7 := HK6.out.1.grownBlk (v := X3.vv) (by intro g hg e; subst e; exact absurd rfl ((own_blk HK6.out.1.vs hg).2.2.ne HK6.out.1.bp (by decide))) (by rw [HVV.out]; exact hgrow); have m5 := cell_of_blk hb7 5; have n5 := free_of_blk hb7 5; have HK7 := Lib.hid (HK6.out.1.valuedG (x := x) hB HK6.out.2 (by rw [List.length_map, List.map_append]; exact hown) (by show World.grownBy _ _ X3.vv.ownBlock; rw [HVV.out]; exact hgrow) (by show ∀ g, _ → X3.vv.ownBlock = some g ∨ _; rw [HVV.out]; exact hap)); clear hown hgrow hap hb7))
      go_ret
      obtain ⟨h7, f7⟩ := HK7.out
      rw [HN.out]
      refine ⟨rfl, RdTo.of (by rw [List.map_append, List.map_append]; exact h7) f7 ?_ (fun y hy => ?_)⟩
      · rw [List.map_append]; exact HFIT.out
      · rcases List.mem_append.1 hy with hy | hy
        · exact HKZ.out y hy
        · rw [List.mem_singleton.1 hy]; exact hks
theorem rdSet_any (w : World) (B p : Nat) (F : Nat → Prop) (N : NM) (L : Pl) (X : RB) (key : ByteArray) (x : Int) (h : RefD w B p F N L X) (hB : B ≤ w.heap.size) (hol : N.old.length ≤ 2199023255552) (hyl : N.young.length ≤ 2199023255552) (hL : L.length ≤ 2199023255552) (hks : key.size ≤ maxLen) :
    Calls Try.prog 70 #[.pointer (some ⟨p, 0, none⟩), .string key, .int .i64 x] w fun e w' => e = .returned (.bool (fdG key L).isNone) ∧ RdTo w B p F (setN N key (fdG key L).isSome L.length) (setG L key x) w' := by
  unfold setG setN
  cases ha : fdG key L with
  | some i => exact rdSet_there w B p F N L X key x i ha h hB (by omega) (by omega) hL
  | none => exact rdSet_new w B p F N L X key x ha h hB hol hyl hL hks
end Go.Proofs.Ytgomilodeaafdaa
namespace Go.Proofs.Ytgomilodeaafdaa
open Go.RowKit
theorem woN_snoc (key x : ByteArray) (l : List ByteArray) : woN key (l ++ [x]) = woN key l ++ (if x = key then [] else [x]) := by
  unfold woN
  rw [List.filter_append]
  congr 1
  rw [List.filter_cons, List.filter_nil]
  by_cases h : x = key
  · rw [if_neg (by simp [h]), if_pos h]
  · rw [if_pos (by simp [h]), if_neg h]
theorem woN_len (key : ByteArray) (l : List ByteArray) : (woN key l).length ≤ l.length := List.length_filter_le _ _
set_option maxRecDepth 100000 in
set_option maxHeartbeats 1000000 in
theorem rdWithout_any (w : World) (v : Value) (l : List ByteArray) (key : ByteArray) (h : RdC w 1 v l.length (l.map .string)) (hl : l.length ≤ 4398046511104) :
    Calls Try.prog 142 #[v, .string key] w fun e w' => ∃ u, e = .returned u ∧ RowS w.heap.size w' u (woN key l) ∧ Fr (fun _ => False) w w' := by
  obtain ⟨a, c, rfl⟩ := rd_sliceN h
  obtain ⟨i0, hi, hz0, hz1, hz2⟩ := info_parts info_str
  have HI := Lib.hid hi
  have HZ0 := Lib.hid hz0
  have HZ1 := Lib.hid hz1
  have HZ2 := Lib.hid hz2
  have HR := Lib.hid h
  clear h hi hz0 hz1 hz2
  go_enter Try.func142, Try.ntmps142
  go_wp2_with fail
  go_loopw [5, 10] (fun vo i wr => ∃ k : Nat, i = .int .i64 k ∧ k ≤ l.length ∧ Hid (RowS w.heap.size wr vo (woN key (l.take k))) ∧ Hid (Below w.heap.size w wr)) (fun _ i _ => l.length - (intOf i).toNat)
  case atStart => exact ⟨0, rfl, by omega, World.ownsRow_nil _ _ _ _, Below.refl _ _⟩
  case round =>
    obtain ⟨k, rfl, hk, HO, HB⟩ := hrel
    obtain ⟨vo, rfl⟩ : ∃ v, v = u5 := ⟨_, rfl⟩
    obtain ⟨wo, rfl⟩ : ∃ wo, wo = wr := ⟨_, rfl⟩
    have ho := HO.out
    obtain ⟨oa, oc, rfl⟩ := owns_slice ho
    have HOO : Hid (wo.ownsRow w.heap.size 9 1 (.slice oa (woN key (l.take k)).length oc) (woN key (l.take k)).length ((woN key (l.take k)).map .string)) := ho
    have hwl := woN_len key (l.take k)
    rw [List.length_take] at hwl
    clear ho
    by_cases hlt : k < l.length
    · obtain ⟨g, off, rfl, hck⟩ := rd_text (HR.out.below HB.out) k hlt
      obtain ⟨x, hx⟩ : ∃ x, l[k] = x := ⟨_, rfl⟩
      rw [hx] at hck
      have htk : woN key (l.take (k + 1)) = woN key (l.take k) ++ (if x = key then [] else [x]) := by
        rw [List.take_succ_eq_append_getElem hlt, hx, woN_snoc]
      have HTK := Lib.hid htk
      obtain ⟨A, hA⟩ : ∃ A, woN key (l.take k) = A := ⟨_, rfl⟩
      rw [hA] at HOO HTK hwl
      have HB2 : Hid (w.heap.size ≤ wo.heap.size) := HB.out.size
      have b2 : (0 : Int) ≤ (k : Int) := by omega
      have b3 : (k : Int) < (l.length : Int) := by omega
      rw [hA]
      clear htk hA hx HO
      by_cases hxk : x = key
      · have hb : (x.toList == key.toList) = true := by rw [str_beq]; exact decide_eq_true hxk
        have hb' : (x.toList != key.toList) = false := by rw [bne, hb]; rfl
        have HXK := Lib.hid hxk
        clear hxk
        go_wp2_with fail
        go_roundw
        case rel =>
          refine ⟨k + 1, by go_num, by omega, ?_, HB⟩
          show RowS _ _ _ _
          rw [HTK.out, if_pos HXK.out, List.append_nil]
          exact HOO.out
        case measure => simp [intOf]; omega
      · have hb : (x.toList == key.toList) = false := by rw [str_beq]; exact decide_eq_false hxk
        have hb' : (x.toList != key.toList) = true := by rw [bne, hb]; rfl
        have HXK := Lib.hid hxk
        clear hxk
        go_wp2_with (at_builtin; refine wpl_append2 rfl (.tmp 17) (.tmp 19) 39 rfl w.heap.size 9 i0 (.string ⟨#[]⟩) 1 16 Try.underlying39 HI.out HZ0.out HZ1.out HZ2.out rfl (by decide) (.slice oa A.length oc) A.length _ rfl (HOO.out.alloc _) _ 1 [.string x] rfl (RdC.of_owns (World.ownsRow_lit (base := wo.heap.size) (e := 9) (size := 1) wo #[.string x] 1 (Nat.le_refl _) (by decide) rfl)) (by simp [Value.oneCell']) (by unfold maxLen; omega) (by omega) (by rw [World.size_alloc]; have := HB2.out; omega) ?_; intro vk w6 hown hgrow hap; have HO6 := Lib.hid hown; have HB6 : Hid (Below w.heap.size w w6) := (HB.out.alloc HB.out.size _).trans ((Fr.of_grownBy hgrow).below (by rw [World.size_alloc]; have := HB2.out; omega) (fun i hi => (own_blk HOO.out hi).1)); clear hown hgrow hap)
        go_roundw
        case rel =>
          refine ⟨k + 1, by go_num, by omega, ?_, HB6⟩
          show RowS _ _ _ _
          rw [HTK.out, if_neg HXK.out]
          exact rowS_app (S := A) (K := [x]) HO6.out
        case measure => simp [intOf]; omega
    · obtain rfl : k = l.length := by omega
      rw [List.take_length] at HOO
      rw [List.take_length]
      go_wp2_with fail
      go_ret
      exact ⟨_, rfl, HOO.out, ⟨HB.out.os, HB.out.tape, HB.out.output, HB.out.size, fun k hk _ => HB.out.block k hk⟩⟩
section
variable {w wr w' : World} {B p : Nat} {F : Nat → Prop} {N : NM} {K K' : List ByteArray} {V V' : List Int} {X : RB}
/-- both lists are laid anew, in memory newer than b -/
theorem RefC.lists (h : RefC w B p F N K V X) {b : Nat} (hb : B ≤ b) (hF : ∀ k, F k → k < b) {kv' vv' : Value} (hk : w.ownsRow b 9 1 kv' K'.length (K'.map .string)) (hv : w.ownsRow b 3 1 vv' V'.length (V'.map (.int .i64))) :
    RefC ((w.setCell ⟨p, 4, none⟩ kv').setCell ⟨p, 5, none⟩ vv') B p (fun k => F k ∨ b ≤ k ∧ k < w.heap.size) N K' V' { X with kv := kv', vv := vv' } := by
  have hf : Fr (fun k => k = p) w ((w.setCell ⟨p, 4, none⟩ kv').setCell ⟨p, 5, none⟩ vv') := ((Fr.refl (fun k => k = p) w).thenSet _ _ (fun _ => rfl)).thenSet _ _ (fun _ => rfl)
  have hnk : ∀ {t r cs}, RowsV w F t r cs → ∀ v ∈ r, ∀ g, v.ownBlock = some g → kv'.ownBlock ≠ some g := fun {t r cs} h1 v hv g hg e => by
    have h3 := (own_blk hk e).1
    obtain ⟨j, hj⟩ := List.mem_iff_getElem?.1 hv
    have hjl : j < cs.length := by rw [← h1.len]; exact (List.getElem?_eq_some_iff.1 hj).1
    obtain ⟨u', q1, q2⟩ := h1.ch j _ (List.getElem?_eq_getElem hjl)
    rw [hj] at q1
    cases q1
    have := hF g (q2.2 g hg).1
    omega
  refine ⟨?_, .inl h.fp, (h.rows1 hf).wide (fun _ hk => .inl hk), (h.rows2 hf).wide (fun _ hk => .inl hk), h.tt, ?_, ?_, fun g hg => .inr ⟨(own_blk hk hg).1, (own_blk hk hg).2.1⟩, fun g hg => .inr ⟨(own_blk hv hg).1, (own_blk hv hg).2.1⟩, hnk h.row1, hnk h.row2, fun k hk => ?_⟩
  · have h1 := heap_setCell_same w p 4 _ _ kv' h.blk
    rw [heap_setCell_same _ p 5 _ _ vv' h1]
    rfl
  · exact ow_base (ow_fr hk hf (fun g hg => h.not_p (own_blk hk hg).2.2 (by decide))) hb
  · exact ow_base (ow_fr hv hf (fun g hg => h.not_p (own_blk hv hg).2.2 (by decide))) hb
  · rw [World.size_setCell, World.size_setCell]
    rcases hk with hk | hk
    · exact h.lt k hk
    · exact ⟨by omega, hk.2⟩
theorem Fit.of_perm (h : Fit N K) (hp : K.Perm K') : Fit N K' := by
  obtain ⟨M, h1, h2, h3⟩ := h
  exact ⟨M, h1, h2, h3.trans hp⟩
end
theorem erase_perm {L : Pl} {i : Nat} {key : ByteArray} {y : Int} (hnd : (L.map (·.1)).Nodup) (h : L[i]? = some (key, y)) : ((L.map (·.1)).filter fun x => decide (x ≠ key)).Perm ((L.eraseIdx i).map (·.1)) := by
  have h1 := (permG_erase L i _ h).map (·.1)
  rw [List.map_cons] at h1
  have hm : key ∈ L.map (·.1) := List.mem_map.2 ⟨_, List.mem_of_getElem? h, rfl⟩
  exact ((filter_back hnd hm).trans h1).cons_inv
/-- the first k but number i -/
def butI {α : Type} (L : List α) (i k : Nat) : List α := (L.take k).eraseIdx i
theorem butI_skip {α : Type} {L : List α} {i : Nat} (h : i < L.length) : butI L i (i + 1) = butI L i i := by
  unfold butI
  have hti : (L.take i).length = i := by rw [List.length_take]; omega
  rw [List.take_succ_eq_append_getElem h, List.eraseIdx_append_of_length_le (by omega), hti, Nat.sub_self, List.eraseIdx_of_length_le (l := L.take i) (by omega)]
  simp
theorem butI_more {α : Type} {L : List α} {i k : Nat} (h : k < L.length) (hne : k ≠ i) : butI L i (k + 1) = butI L i k ++ [L[k]] := by
  unfold butI
  rw [List.take_succ_eq_append_getElem h]
  by_cases hki : k < i
  · rw [List.eraseIdx_of_length_le (by rw [List.length_append, List.length_take]; simp; omega), List.eraseIdx_of_length_le (by rw [List.length_take]; omega)]
  · rw [List.eraseIdx_append_of_lt_length (by rw [List.length_take]; omega)]
theorem butI_len {α : Type} (L : List α) (i k : Nat) : (butI L i k).length ≤ k := by
  unfold butI
  have := List.length_eraseIdx_le (L.take k) i
  rw [List.length_take] at this
  omega
theorem delN_there (N : NM) (key : ByteArray) (n : Nat) : delN N key true n = shrinkN (dropN (stepN N) key) (n - 1) := by unfold delN; rw [if_pos rfl]
theorem cutN_nil (seed : UInt64) (key : ByteArray) : cutN seed [] key = [] := by unfold cutN; exact List.modify_nil ..
theorem fr_bel0 {w w' : World} (hb : Below w.heap.size w w') : Fr (fun _ => False) w w' := ⟨hb.os, hb.tape, hb.output, hb.size, fun k hk _ => hb.block k hk⟩
set_option maxRecDepth 100000 in
set_option maxHeartbeats 1000000 in
theorem rdDel_none (w : World) (B p : Nat) (F : Nat → Prop) (N : NM) (L : Pl) (X : RB) (key : ByteArray) (ha : fdG key L = none) (h : RefD w B p F N L X) (hB : B ≤ w.heap.size) (hol : N.old.length ≤ 4398046511104) (hyl : N.young.length ≤ 4398046511104) (hL : L.length ≤ 2199023255552) :
    Calls Try.prog 74 #[.pointer (some ⟨p, 0, none⟩), .string key] w fun e w' => e = .returned (.bool false) ∧ RdTo w B p F (stepN N) L w' := by
  have HS := Lib.hid (rdStep_any w B p F N L X h hB hol hyl hL)
  have g1 : decide ((-1 : Int) < 0) = true := rfl
  have e0 : idxV none = -1 := rfl
  have HA := Lib.hid ha
  clear h hol hyl ha
  go_enter Try.func74, Try.ntmps74
  go_wp2_with fail
  refine HS.out.mono ?_
  rintro e w1 ⟨rfl, X1, D1, F1⟩
  have HI := Lib.hid (rdIndex_any w1 p L X1.kv key D1.c.cells.2.2.2.2.1 (idx_keys (RdC.of_owns D1.c.ks)))
  rw [HA.out, e0] at HI
  have HD := Lib.hid D1
  have HF := Lib.hid F1
  clear D1 F1 HS e0
  go_wp2_with fail
  refine HI.out.mono ?_
  rintro e w' ⟨rfl, rfl⟩
  go_wp2_with fail
  go_ret
  exact ⟨rfl, X1, HD.out, HF.out⟩
set_option maxRecDepth 100000 in
set_option maxHeartbeats 3000000 in
theorem rdDel_there (w : World) (B p : Nat) (F : Nat → Prop) (N : NM) (L : Pl) (X : RB) (key : ByteArray) (j : Nat) (ha : fdG key L = some j) (h : RefD w B p F N L X) (hB : B ≤ w.heap.size) (hol : N.old.length ≤ 2199023255552) (hyl : N.young.length ≤ 2199023255552) (hL : L.length ≤ 2199023255552) (hks : key.size ≤ maxLen) :
    Calls Try.prog 74 #[.pointer (some ⟨p, 0, none⟩), .string key] w fun e w' => e = .returned (.bool true) ∧ RdTo w B p F (shrinkN (dropN (stepN N) key) (L.length - 1)) (L.eraseIdx j) w' := by
  have HS := Lib.hid (rdStep_any w B p F N L X h hB (by omega) (by omega) hL)
  obtain ⟨y, hy⟩ := fdG_some ha
  have hjl := fdG_lt ha
  have hfit := h.fit.del key true ⟨fun _ => fdG_keys.1 (by rw [ha]; rfl), fun _ => rfl⟩
  have HFIT : Hid (Fit (shrinkN (dropN (stepN N) key) (L.length - 1)) ((L.eraseIdx j).map (·.1))) := by
    have h1 := hfit
    rw [List.length_map, delN_there] at h1
    exact h1.of_perm (erase_perm h.fit.nodup hy)
  have hls : (stepN N).old.length ≤ 2199023255552 ∧ (stepN N).young.length ≤ 2199023255552 := stepN_lens hol hyl
  have HFP := Lib.hid h.c.fp
  have HKZ := Lib.hid h.ksz
  have HA := Lib.hid ha
  have e0 : idxV (some j) = (j : Int) := rfl
  obtain ⟨N1, hN1⟩ : ∃ N1, stepN N = N1 := ⟨_, rfl⟩
  rw [hN1] at HS hls HFIT
  rw [hN1]
  have HLN : Hid (N1.old.length ≤ 4398046511104 ∧ N1.young.length ≤ 4398046511104) := ⟨by omega, by omega⟩
  have g1 : decide ((j : Int) < 0) = false := decide_eq_false (by omega)
  obtain ⟨i0, hi, hz0, hz1, hz2⟩ := info_parts info_str
  have HI0 := Lib.hid hi
  have HZ0 := Lib.hid hz0
  have HZ1 := Lib.hid hz1
  have HZ2 := Lib.hid hz2
  obtain ⟨j0, hj, hy0, hy1, hy2⟩ := info_parts info_int
  have HJ := Lib.hid hj
  have HY0 := Lib.hid hy0
  have HY1 := Lib.hid hy1
  have HY2 := Lib.hid hy2
  clear h hol hyl ha hfit hls hN1 hy hi hz0 hz1 hz2 hj hy0 hy1 hy2
  go_enter Try.func74, Try.ntmps74
  go_wp2_with fail
  refine HS.out.mono ?_
  rintro e w1 ⟨rfl, X1, D1, F1⟩
  have HI := Lib.hid (rdIndex_any w1 p L X1.kv key D1.c.cells.2.2.2.2.1 (idx_keys (RdC.of_owns D1.c.ks)))
  rw [HA.out, e0] at HI
  have hbw : B ≤ w1.heap.size := Nat.le_trans hB F1.size
  have HBW := Lib.hid hbw
  have hkr := D1.c.ks
  have hvr := D1.c.vs
  obtain ⟨kg, kc, hkv, -, -⟩ := hkr.form (by rw [List.length_map]; omega)
  obtain ⟨vg, vc, hvv, -, -⟩ := hvr.form (by rw [List.length_map]; omega)
  rw [List.length_map] at hkv hvv
  rw [hkv, List.length_map] at hkr
  rw [hvv, List.length_map] at hvr
  have c4 : w1.cell? ⟨p, 4, none⟩ = some (.slice (some ⟨kg, 0, none⟩) L.length kc) := D1.c.cells.2.2.2.2.1.trans (congrArg some hkv)
  have HCELL : Hid (∀ W, Below w1.heap.size w1 W → W.cell? ⟨p, 4, none⟩ = some (.slice (some ⟨kg, 0, none⟩) L.length kc) ∧ W.cell? ⟨p, 5, none⟩ = some (.slice (some ⟨vg, 0, none⟩) L.length vc) ∧ ∀ (k : Nat) x, L[k]? = some x → W.cell? ⟨kg, k, none⟩ = some (.string x.1) ∧ W.cell? ⟨vg, k, none⟩ = some (.int .i64 x.2)) := fun W hb => by
    have hq := fr_bel0 hb
    refine ⟨hq.cell c4 (fun h => h), hq.cell (D1.c.cells.2.2.2.2.2.trans (congrArg some hvv)) (fun h => h), fun k x hx => ?_⟩
    have hkl := (List.getElem?_eq_some_iff.1 hx).1
    have h1 := hkr.cellAt k (by omega)
    have h2 := hvr.cellAt k (by omega)
    rw [List.getElem?_map, List.getElem?_map, hx] at h1 h2
    exact ⟨hq.cell h1 (fun h => h), hq.cell h2 (fun h => h)⟩
  have HD := Lib.hid D1
  have HF := Lib.hid F1
  clear D1 F1 HS e0 hkr hvr hkv hvv hbw
  go_wp2_with fail
  refine HI.out.mono ?_
  rintro e w' ⟨rfl, rfl⟩
  go_wp2_with fail
  go_loopw [6, 7, 25] (fun vk vv i wr => ∃ k : Nat, i = .int .i64 k ∧ k ≤ L.length ∧ Hid (wr.ownsRow w1.heap.size 9 1 vk (butI L j k).length ((butI L j k).map fun x => .string x.1)) ∧ Hid (wr.ownsRow w1.heap.size 3 1 vv (butI L j k).length ((butI L j k).map fun x => .int .i64 x.2)) ∧ Hid (Below w1.heap.size w1 wr)) (fun _ _ i _ => L.length - (intOf i).toNat)
  case atStart => exact ⟨0, rfl, by omega, World.ownsRow_nil _ _ _ _, World.ownsRow_nil _ _ _ _, Below.refl _ _⟩
  case round =>
    obtain ⟨k, rfl, hk, HK, HV, HB1⟩ := hrel
    obtain ⟨vk, rfl⟩ : ∃ v, v = u6 := ⟨_, rfl⟩
    obtain ⟨vv, rfl⟩ : ∃ v, v = u7 := ⟨_, rfl⟩
    obtain ⟨wo, rfl⟩ : ∃ wo, wo = wr := ⟨_, rfl⟩
    clear c4
    have hkr := HK.out
    have hvr := HV.out
    obtain ⟨ka, kc1, rfl⟩ := ow_sliceN hkr
    obtain ⟨va, vc1, rfl⟩ := ow_sliceN hvr
    have hbl := butI_len L j k
    clear hkr hvr
    by_cases hlt : k < L.length
    · obtain ⟨q4, q5, q6⟩ := HCELL.out wo HB1.out
      obtain ⟨x, hx⟩ : ∃ x, L[k]? = some x := ⟨_, List.getElem?_eq_getElem hlt⟩
      obtain ⟨q7, q8⟩ := q6 k x hx
      have HSZ1 : Hid (w1.heap.size ≤ wo.heap.size) := HB1.out.size
      have b2 : (0 : Int) ≤ (k : Int) := by omega
      have b3 : (k : Int) < (L.length : Int) := by omega
      have hx2 : L[k] = x := by rw [List.getElem?_eq_getElem hlt] at hx; exact Option.some.inj hx
      clear q6
      by_cases hkj : k = j
      · subst hkj
        have hb : ((k : Int) == (k : Int)) = true := beq_self_eq_true _
        have hb' : ((k : Int) != (k : Int)) = false := by rw [bne, hb]; rfl
        have hs := butI_skip hlt
        have HSK := Lib.hid hs
        clear hs hx hx2
        go_wp2_with fail
        go_roundw
        case rel => exact ⟨k + 1, by go_num, by omega, by rw [HSK.out]; exact HK, by rw [HSK.out]; exact HV, HB1⟩
        case measure => simp [intOf]; omega
      · have hb : ((k : Int) == (j : Int)) = false := beq_eq_false_iff_ne.2 (by omega)
        have hb' : ((k : Int) != (j : Int)) = true := by rw [bne, hb]; rfl
        have hs := butI_more hlt hkj
        rw [hx2] at hs
        have HSM := Lib.hid hs
        have HX := Lib.hid hx
        obtain ⟨A, hA⟩ : ∃ A, butI L j k = A := ⟨_, rfl⟩
        rw [hA] at HK HV HSM hbl
        rw [hA]
        clear hs hx hx2 hkj hA
        go_wp2_with (first | (at_builtin; refine wpl_append2 rfl (.tmp 31) (.tmp 39) 39 rfl w1.heap.size 9 i0 (.string ⟨#[]⟩) 1 16 Try.underlying39 HI0.out HZ0.out HZ1.out HZ2.out rfl (by decide) (.slice ka A.length kc1) A.length _ rfl (HK.out.alloc _) _ 1 [.string x.1] rfl (RdC.of_owns (World.ownsRow_lit (base := wo.heap.size) (e := 9) (size := 1) wo #[.string x.1] 1 (Nat.le_refl _) (by decide) rfl)) (by simp [Value.oneCell']) (by unfold maxLen; omega) (by omega) (by rw [World.size_alloc]; have := HSZ1.out; omega) ?_; intro vk2 w6 hown hgrow hap; have hf6 := Fr.of_grownBy hgrow; have HB6 : Hid (Below w1.heap.size w1 w6) := (HB1.out.alloc HB1.out.size _).trans (hf6.below (by rw [World.size_alloc]; have := HSZ1.out; omega) (fun i hi => (own_blk HK.out hi).1)); have HV6 : Hid (w6.ownsRow w1.heap.size 3 1 (.slice va A.length vc1) A.length (A.map fun x => .int .i64 x.2)) := ow_fr (HV.out.alloc _) hf6 (fun g hg e => absurd rfl ((own_blk HV.out hg).2.2.ne (own_blk HK.out e).2.2 (by decide))); have HK6 := Lib.hid hown; obtain ⟨r4, r5, r6⟩ := HCELL.out w6 HB6.out; obtain ⟨r7, r8⟩ := r6 k x HX.out; have HSZ6 : Hid (w1.heap.size ≤ w6.heap.size) := HB6.out.size; clear hown hgrow hap hf6 r6) | (at_builtin; refine wpl_append2 rfl (.tmp 41) (.tmp 49) 106 rfl w1.heap.size 3 j0 (.int .i64 0) 1 8 Try.underlying106 HJ.out HY0.out HY1.out HY2.out rfl (by decide) (.slice va A.length vc1) A.length _ rfl (HV6.out.alloc _) _ 1 [.int .i64 x.2] rfl (RdC.of_owns (World.ownsRow_lit (base := w6.heap.size) (e := 3) (size := 1) w6 #[.int .i64 x.2] 1 (Nat.le_refl _) (by decide) rfl)) (by simp [Value.oneCell']) (by unfold maxLen; omega) (by omega) (by rw [World.size_alloc]; have := HSZ6.out; omega) ?_; intro vv2 w7 hown hgrow hap; have hf7 := Fr.of_grownBy hgrow; have HB7 : Hid (Below w1.heap.size w1 w7) := (HB6.out.alloc HB6.out.size _).trans (hf7.below (by rw [World.size_alloc]; have := HSZ6.out; omega) (fun i hi => (own_blk HV6.out hi).1)); have HK7 := Lib.hid (ow_fr (HK6.out.alloc (.cells #[.int .i64 x.2] 3)) hf7 (fun g hg e => absurd rfl ((own_blk HK6.out hg).2.2.ne (own_blk HV6.out e).2.2 (by decide)))); have HV7 := Lib.hid hown; clear hown hgrow hap hf7))
        go_roundw
        case rel => exact ⟨k + 1, by go_num, by omega, by rw [HSM.out, List.length_append, List.map_append]; exact HK7, by rw [HSM.out, List.length_append, List.map_append]; exact HV7, HB7⟩
        case measure => simp [intOf]; omega
    · obtain rfl : k = L.length := by omega
      have hbt : butI L j L.length = L.eraseIdx j := by unfold butI; rw [List.take_length]
      rw [hbt] at HK HV
      rw [hbt]
      obtain ⟨D, hD⟩ : ∃ D, L.eraseIdx j = D := ⟨_, rfl⟩
      have hDl : D.length = L.length - 1 := by rw [← hD, List.length_eraseIdx_of_lt hjl]
      have HDL := Lib.hid hDl
      clear hDl
      have HDD := Lib.hid hD
      rw [hD] at HK HV HFIT
      rw [hD]
      have HC0 := Lib.hid (HD.out.c.quiet (fr_bel0 HB1.out))
      have hb0 := HC0.out.blk
      have q4 := (HCELL.out wo HB1.out).1
      have q5 := (HCELL.out wo HB1.out).2.1
      have z4 := free_of_blk hb0 4
      have z5 := free_of_blk hb0 5
      have hDZ : ∀ x ∈ D, x.1.size ≤ maxLen := fun x hx => HKZ.out x (by rw [← HDD.out] at hx; exact List.mem_of_mem_eraseIdx hx)
      have HDZ := Lib.hid hDZ
      have hcl : ∀ c, (c ∈ N1.old ∨ c ∈ N1.young) → c.length ≤ L.length := fun c hc => by
        have := hc.elim (fun e => HD.out.fit.len_old e) (fun e => HD.out.fit.len_young e)
        rwa [List.length_map] at this
      have HCL := Lib.hid hcl
      have hne1 : N1.old ≠ [] := fun e => by
        have h1 := HD.out.fit.count
        have h2 : N1.young ≠ [] → N1.old ≠ [] := fun h e => by have := HD.out.fit.mov h; rw [e] at this; simp at this
        have h3 : N1.young = [] := by
          cases hy : N1.young with
          | nil => rfl
          | cons a l => exact absurd e (h2 (by rw [hy]; simp))
        rw [e, h3, List.length_map] at h1
        simp at h1
        omega
      have HNE1 := Lib.hid hne1
      have hsz1 := HB1.out.size
      have HR2 : Hid (RefC ((wo.setCell ⟨p, 4, none⟩ (.slice ka D.length kc1)).setCell ⟨p, 5, none⟩ (.slice va D.length vc1)) B p (Grew F w ((wo.setCell ⟨p, 4, none⟩ (.slice ka D.length kc1)).setCell ⟨p, 5, none⟩ (.slice va D.length vc1))) N1 (D.map (·.1)) (D.map (·.2)) { X1 with kv := .slice ka D.length kc1, vv := .slice va D.length vc1 }) := by
        have h1 := HC0.out.lists (b := w1.heap.size) (K' := D.map (·.1)) (V' := D.map (·.2)) HBW.out (fun k hk => (HD.out.c.lt k hk).2) (by rw [List.length_map, List.map_map]; exact HK.out) (by rw [List.length_map, List.map_map]; exact HV.out)
        have hs1 := HF.out.size
        refine h1.wide (fun k hk => grew_set.2 (grew_set.2 ?_)) (fun k hk => ?_)
        · rcases hk with (hk | hk) | hk
          · exact .inl hk
          · exact .inr ⟨hk.1, by omega⟩
          · exact .inr ⟨by omega, hk.2⟩
        · rcases grew_set.1 (grew_set.1 hk) with hk | hk
          · exact h1.lt k (.inl (.inl hk))
          · exact ⟨by omega, by rw [World.size_setCell, World.size_setCell]; exact hk.2⟩
      have HF2' : Hid (Fr F w ((wo.setCell ⟨p, 4, none⟩ (.slice ka D.length kc1)).setCell ⟨p, 5, none⟩ (.slice va D.length vc1))) := ((HF.out.wide (fr_bel0 HB1.out) (fun _ h => h.elim)).thenSet _ _ (fun _ => HFP.out)).thenSet _ _ (fun _ => HFP.out)
      obtain ⟨X2, hX2⟩ : ∃ X2 : RB, { X1 with kv := .slice ka D.length kc1, vv := .slice va D.length vc1 } = X2 := ⟨_, rfl⟩
      rw [hX2] at HR2
      clear hX2 hD hjl hbl hbt hlt hk hDZ hcl hne1 HK HV HC0 HB1 HCELL HKZ hb0 hsz1
      go_upto_region 18 with (fail)
      obtain ⟨W2, hW2⟩ : ∃ W2, (wo.setCell ⟨p, 4, none⟩ (.slice ka D.length kc1)).setCell ⟨p, 5, none⟩ (.slice va D.length vc1) = W2 := ⟨_, rfl⟩
      rw [hW2] at HR2 HF2' ⊢
      clear hW2 q4 q5 z4 z5
      have HC2 := HR2
      have HF2 := HF2'
      have hlen : X2.r1.length = N1.old.length := HC2.out.row1.len
      have hrne : X2.r1 ≠ [] := rowsV_ne HC2.out.row1 HNE1.out
      have hpos : 0 < X2.r1.length := List.length_pos_iff.2 hrne
      have f0 := HC2.out.cells.1
      have hil := slotOf_lt N1.seed X2.r1.length key hpos
      obtain ⟨i, hi⟩ : ∃ i, slotOf N1.seed X2.r1.length key = i := ⟨_, rfl⟩
      rw [hi] at hil
      obtain ⟨c, hc⟩ : ∃ c, N1.old[i]? = some c := ⟨_, List.getElem?_eq_getElem (by omega)⟩
      obtain ⟨a2, c2, hpf, hrd⟩ := HC2.out.putF1 hc
      have HPF := Lib.hid hpf
      have f2d := hpf.cp
      have hct := hpf.ct
      have hcl : c.length ≤ 4398046511104 := by have := HCL.out c (.inl (List.mem_of_getElem? hc)); omega
      have HPL := Lib.hid (rdPlace_any W2 p (some ⟨X2.t1, 0, none⟩) X2.r1.length X2.r1.length N1.seed key f0 hpos (by have := HLN.out; omega) hks)
      rw [hi] at HPL
      have HAH : Hid (∀ W, Fr (fun _ => False) W2 W → Calls Try.prog 142 #[.slice a2 c.length c2, .string key] W fun e w' => ∃ u, e = .returned u ∧ RowS W.heap.size w' u (woN key c) ∧ Fr (fun _ => False) W w') :=
        fun W hf => rdWithout_any W _ c key (hrd.fr hf (fun _ _ h => h)) hcl
      have hq0 : Fr (fun _ => False) W2 W2.drew := Fr.drew _ _
      have HMV : Hid (∀ w5 u, Fr (fun _ => False) W2.drew w5 → RowS W2.drew.heap.size w5 u (woN key c) → ∃ X, RefC (w5.setCell ⟨X2.t1, i, none⟩ u) B p (Grew F w (w5.setCell ⟨X2.t1, i, none⟩ u)) { N1 with old := cutN N1.seed N1.old key } (D.map (·.1)) (D.map (·.2)) X ∧ Fr F w (w5.setCell ⟨X2.t1, i, none⟩ u)) := fun w5 u h1 h2 => by
        have hg : cutN N1.seed N1.old key = N1.old.set i (woN key c) := by
          rw [cutN_eq N1.seed N1.old key c (by rw [← hlen, hi]; exact hc), ← hlen, hi]
        rw [hg]
        obtain ⟨h3, h4⟩ := RefC.lay1 hB HC2.out HF2.out hc (hq0.trans h1 (fun _ h _ => h)) h2
        exact ⟨_, h3, h4⟩
      have b4 : (0 : Int) ≤ (i : Int) := by omega
      have b5 : (i : Int) < (X2.r1.length : Int) := by omega
      clear hlen hrne hi hc hpf hrd hcl
      go_wp2_with fail
      refine HPL.out.mono ?_
      rintro e w' ⟨rfl, rfl⟩
      go_upto_region 19 with (fail)
      refine wp_region_held_drew (S := (fun w' => w'.cell? ⟨p, 1, none⟩ = some (.slice (some ⟨X2.t1, 0, none⟩) X2.r1.length X2.r1.length))) (by kernel_rfl) ?_ (fun hHeld => ?_)
      · exact f2d
      refine takeH (i := 0) (d := 67) (v := ?va0) rfl (by kernel_rfl) (by kernel_rfl) (by kernel_rfl) (by kernel_rfl) (fun _ _ _ h => h) (Or.inl ⟨by kernel_rfl, ?hya0⟩) hHeld ?resta0
      case hya0 =>
        intro w hSw
        try dsimp only at hSw
        first | (go_simp; done) | (go_simp; with_reducible rfl)
      try simp only [Act.put, List.setIfInBounds_toArray, List.set_cons_zero, List.set_cons_succ]
      refine takeH (i := 1) (d := 68) (v := ?va1) rfl (by kernel_rfl) (by kernel_rfl) (by kernel_rfl) (by kernel_rfl) (fun _ _ _ h => h) (Or.inl ⟨by kernel_rfl, ?hya1⟩) hHeld ?resta1
      case hya1 =>
        intro w hSw
        try dsimp only at hSw
        first | (go_simp; done) | (go_simp; with_reducible rfl)
      try simp only [Act.put, List.setIfInBounds_toArray, List.set_cons_zero, List.set_cons_succ]
      refine takeH (i := 2) (d := 69) (v := ?va2) rfl (by kernel_rfl) (by kernel_rfl) (by kernel_rfl) (by kernel_rfl) (fun _ _ _ h => h) (Or.inl ⟨by kernel_rfl, ?hya2⟩) hHeld ?resta2
      case hya2 =>
        intro w hSw
        try dsimp only at hSw
        first | (go_simp; done) | (go_simp; with_reducible rfl)
      try simp only [Act.put, List.setIfInBounds_toArray, List.set_cons_zero, List.set_cons_succ]
      refine takeH (i := 3) (d := 70) (v := ?va3) rfl (by kernel_rfl) (by kernel_rfl) (by kernel_rfl) (by kernel_rfl) (fun _ _ _ h => h) (Or.inl ⟨by kernel_rfl, ?hya3⟩) hHeld ?resta3
      case hya3 =>
        intro w hSw
        try dsimp only at hSw
        first | (go_simp; done) | (go_simp; with_reducible rfl)
      try simp only [Act.put, List.setIfInBounds_toArray, List.set_cons_zero, List.set_cons_succ]
      refine takeH (i := 4) (d := 71) (v := ?va4) rfl (by kernel_rfl) (by kernel_rfl) (by kernel_rfl) (by kernel_rfl) (fun _ _ _ h => h) (Or.inl ⟨by kernel_rfl, ?hya4⟩) hHeld ?resta4
      case hya4 =>
        intro w hSw
        try dsimp only at hSw
        first | (go_simp; done) | (go_simp; with_reducible rfl)
      try simp only [Act.put, List.setIfInBounds_toArray, List.set_cons_zero, List.set_cons_succ]
      refine takeH (i := 5) (d := 72) (v := ?va5) rfl (by kernel_rfl) (by kernel_rfl) (by kernel_rfl) (by kernel_rfl) (fun _ _ _ h => h) (Or.inl ⟨by kernel_rfl, ?hya5⟩) hHeld ?resta5
      case hya5 =>
        intro w hSw
        try dsimp only at hSw
        first | (go_simp; done) | (go_simp; with_reducible rfl)
      try simp only [Act.put, List.setIfInBounds_toArray, List.set_cons_zero, List.set_cons_succ]
      refine takeH (i := 6) (d := 73) (v := ?va6) rfl (by kernel_rfl) (by kernel_rfl) (by kernel_rfl) (by kernel_rfl) (fun _ _ _ h => h) (Or.inl ⟨by kernel_rfl, ?hya6⟩) hHeld ?resta6
      case hya6 =>
        intro w hSw
        try dsimp only at hSw
        first | (go_simp; done) | (go_simp; with_reducible rfl)
      try simp only [Act.put, List.setIfInBounds_toArray, List.set_cons_zero, List.set_cons_succ]
      refine takeH (i := 7) (d := 74) (v := ?va7) rfl (by kernel_rfl) (by kernel_rfl) (by kernel_rfl) (by kernel_rfl) (fun _ _ _ h => h) (Or.inl ⟨by kernel_rfl, ?hya7⟩) hHeld ?resta7
      case hya7 =>
        intro w hSw
        try dsimp only at hSw
        first | (go_simp; done) | (go_simp; with_reducible rfl)
      try simp only [Act.put, List.setIfInBounds_toArray, List.set_cons_zero, List.set_cons_succ]
      refine takeH (i := 8) (d := 75) (v := ?va8) rfl (by kernel_rfl) (by kernel_rfl) (by kernel_rfl) (by kernel_rfl) (fun _ _ _ h => h) (Or.inl ⟨by kernel_rfl, ?hya8⟩) hHeld ?resta8
      case hya8 =>
        intro w hSw
        try dsimp only at hSw
        first | (go_simp; done) | (go_simp; with_reducible rfl)
      try simp only [Act.put, List.setIfInBounds_toArray, List.set_cons_zero, List.set_cons_succ]
      refine takeH (i := 9) (d := 76) (v := ?va9) rfl (by kernel_rfl) (by kernel_rfl) (by kernel_rfl) (by kernel_rfl) (fun _ _ _ h => h) (Or.inl ⟨by kernel_rfl, ?hya9⟩) hHeld ?resta9
      case hya9 =>
        intro w hSw
        try dsimp only at hSw
        first | (go_simp; done) | (go_simp; with_reducible rfl)
      try simp only [Act.put, List.setIfInBounds_toArray, List.set_cons_zero, List.set_cons_succ]
      refine takeH (i := 10) (d := 77) (v := ?va10) rfl (by kernel_rfl) (by kernel_rfl) (by kernel_rfl) (by kernel_rfl) (fun _ _ _ h => h) (Or.inl ⟨by kernel_rfl, ?hya10⟩) hHeld ?resta10
      case hya10 =>
        intro w hSw
        try dsimp only at hSw
        first | (go_simp; done) | (go_simp; with_reducible rfl)
      try simp only [Act.put, List.setIfInBounds_toArray, List.set_cons_zero, List.set_cons_succ]
      refine takeH (i := 12) (d := 79) (v := ?va11) rfl (by kernel_rfl) (by kernel_rfl) (by kernel_rfl) (by kernel_rfl) (fun _ _ _ h => h) (Or.inl ⟨by kernel_rfl, ?hya11⟩) hHeld ?resta11
      case hya11 =>
        intro w hSw
        try dsimp only at hSw
        first | (go_simp; done) | (go_simp; with_reducible rfl)
      try simp only [Act.put, List.setIfInBounds_toArray, List.set_cons_zero, List.set_cons_succ]
      refine wpAnyH_ready (rs := [11]) (by kernel_rfl) (by simp) ?_
      refine AllReadyH.cons rfl (fun K hK => ?_) AllReadyH.nil
      have HH := Lib.hid hHeld
      clear hHeld
      go_simp
      refine hK.out _ _ ?_ (fun hNew => ?_)
      · exact f2d
      clear hK K HH
      have hHeld := hNew
      clear hNew
      try simp only [Act.put, List.setIfInBounds_toArray, List.set_cons_zero, List.set_cons_succ]
      refine wpAnyH_ready (rs := [13]) (by kernel_rfl) (by simp) ?_
      refine AllReadyH.cons rfl (fun K hK => ?_) AllReadyH.nil
      have HH := Lib.hid hHeld
      clear hHeld
      go_simp
      refine (HAH.out _ hq0).mono ?_
      rintro e w5 ⟨u, rfl, hru, hfq⟩
      obtain ⟨ua, uc, rfl⟩ := ow_sliceN hru
      have HRU := Lib.hid hru
      have HFQ := Lib.hid hfq
      have hz5 : w5.frozen? ⟨X2.t1, i, none⟩ = false := (HPF.out.hold w5 hfq).1
      have hc5 : w5.cell? ⟨X2.t1, i, none⟩ = some (.slice a2 c.length c2) := (HPF.out.hold w5 hfq).2.1
      clear hru hfq
      refine hK.out _ _ ?_ (fun hNew => ?_)
      · exact (HPF.out.hold w5 HFQ.out).2.2.1
      clear hK K HH
      have hHeld := hNew
      clear hNew
      try simp only [Act.put, List.setIfInBounds_toArray, List.set_cons_zero, List.set_cons_succ]
      refine wpAnyH_ready (rs := [14]) (by kernel_rfl) (by simp) ?_
      refine AllReadyH.cons rfl (fun K hK => ?_) AllReadyH.nil
      have HH := Lib.hid hHeld
      clear hHeld
      go_simp
      refine hK.out _ _ ?_ (fun hNew => ?_)
      · exact (HPF.out.hold w5 HFQ.out).2.2.1
      clear hK K HH
      have hHeld := hNew
      clear hNew
      try simp only [Act.put, List.setIfInBounds_toArray, List.set_cons_zero, List.set_cons_succ]
      refine wpAnyH_ready (rs := [15]) (by kernel_rfl) (by simp) ?_
      refine AllReadyH.cons rfl (fun K hK => ?_) AllReadyH.nil
      have HH := Lib.hid hHeld
      clear hHeld
      go_simp
      refine hK.out _ _ ?_ (fun hNew => ?_)
      · exact (HPF.out.hold w5 HFQ.out).2.2.2 _
      clear hK K HH
      have hHeld := hNew
      clear hNew
      try simp only [Act.put, List.setIfInBounds_toArray, List.set_cons_zero, List.set_cons_succ]
      refine wpAnyH_done (by kernel_rfl) ?_ _
      obtain ⟨X3, hc3, hf3⟩ := HMV.out _ _ HFQ.out HRU.out
      obtain ⟨W3, hW3⟩ : ∃ W3, w5.setCell ⟨X2.t1, i, none⟩ (.slice ua (woN key c).length uc) = W3 := ⟨_, rfl⟩
      rw [hW3] at hc3 hf3 ⊢
      have HC3 := Lib.hid hc3
      have HF3 := Lib.hid hf3
      obtain ⟨m2, hm2⟩ : ∃ n, N1.young.length = n := ⟨_, rfl⟩
      have d2 : W3.cell? ⟨p, 2, none⟩ = some (rowV X3.t2 X3.r2) := hc3.cells.2.2.1
      obtain ⟨b2, hv2⟩ := rowV_eq X3.t2 X3.r2
      rw [hv2, show X3.r2.length = m2 from hc3.row2.len.trans hm2] at d2
      have HM2 := Lib.hid hm2
      clear hc3 hf3 hW3 hv2 hm2 HMV HAH HPL HPF HRU HFQ HR2 HF2' HC2 HF2 f0 f2d hct hz5 hc5 hq0 b4 b5 hil hpos hHeld
      obtain ⟨N3, hN3⟩ : ∃ N3 : NM, { N1 with old := cutN N1.seed N1.old key } = N3 := ⟨_, rfl⟩
      rw [hN3] at HC3
      have h3o : N3.old.length = N1.old.length := by rw [← hN3]; exact cutN_length _ _ _
      have h3y : N3.young = N1.young := by rw [← hN3]
      have hdr : dropN N1 key = { N3 with young := cutN N3.seed N3.young key } := by rw [← hN3]; rfl
      have HDR := Lib.hid hdr
      have HY3 := Lib.hid h3y
      have HO3 := Lib.hid h3o
      have hlnn := HLN.out
      rw [← h3o, ← h3y] at hlnn
      have HLN := Lib.hid hlnn
      have hcl3 : ∀ c, c ∈ N3.young → c.length ≤ L.length := fun c hc => HCL.out c (.inr (by rw [← HY3.out]; exact hc))
      have hm3 : N3.young.length = m2 := by rw [h3y]; exact HM2.out
      have HM3 := Lib.hid hm3
      have HCL : Hid (∀ c, (c ∈ N3.old ∨ c ∈ N3.young) → c ∈ N3.young → c.length ≤ L.length) := fun c _ hc => hcl3 c hc
      have hpd : p < W3.heap.size := (HC3.out.lt p HC3.out.fp).2
      clear hN3 h3o h3y hdr hlnn hcl3 hm3
      by_cases hy : 0 < m2
      · have g3 : decide ((0 : Int) < (m2 : Int)) = true := decide_eq_true (by omega)
        have g3' : decide (0 < m2) = true := decide_eq_true hy
        have HNE2 : Hid (N3.young ≠ []) := fun e => by have := HM3.out; rw [e] at this; simp at this; omega
        go_upto_if 87 with (fail)
        have hlen : X3.r2.length = N3.young.length := HC3.out.row2.len
        have hrne : X3.r2 ≠ [] := rowsV_ne HC3.out.row2 HNE2.out
        have hpos : 0 < X3.r2.length := List.length_pos_iff.2 hrne
        have f0 := HC3.out.cells.1
        have hil := slotOf_lt N3.seed X3.r2.length key hpos
        obtain ⟨i2, hi⟩ : ∃ i, slotOf N3.seed X3.r2.length key = i := ⟨_, rfl⟩
        rw [hi] at hil
        obtain ⟨c, hc⟩ : ∃ c, N3.young[i2]? = some c := ⟨_, List.getElem?_eq_getElem (by omega)⟩
        obtain ⟨a2, c2, hpf, hrd⟩ := HC3.out.putF2 hc
        have HPF := Lib.hid hpf
        have f2d := hpf.cp
        have hct := hpf.ct
        have hcl : c.length ≤ 4398046511104 := by have := HCL.out c (.inr (List.mem_of_getElem? hc)) (List.mem_of_getElem? hc); omega
        have HPL := Lib.hid (rdPlace_any W3 p (some ⟨X3.t2, 0, none⟩) X3.r2.length X3.r2.length N3.seed key f0 hpos (by have := HLN.out; omega) hks)
        rw [hi] at HPL
        have HAH : Hid (∀ W, Fr (fun _ => False) W3 W → Calls Try.prog 142 #[.slice a2 c.length c2, .string key] W fun e w' => ∃ u, e = .returned u ∧ RowS W.heap.size w' u (woN key c) ∧ Fr (fun _ => False) W w') :=
          fun W hf => rdWithout_any W _ c key (hrd.fr hf (fun _ _ h => h)) hcl
        have hq0 : Fr (fun _ => False) W3 W3.drew := Fr.drew _ _
        have HMV : Hid (∀ w5 u, Fr (fun _ => False) W3.drew w5 → RowS W3.drew.heap.size w5 u (woN key c) → ∃ X, RefC (w5.setCell ⟨X3.t2, i2, none⟩ u) B p (Grew F w (w5.setCell ⟨X3.t2, i2, none⟩ u)) { N3 with young := cutN N3.seed N3.young key } (D.map (·.1)) (D.map (·.2)) X ∧ Fr F w (w5.setCell ⟨X3.t2, i2, none⟩ u)) := fun w5 u h1 h2 => by
          have hg : cutN N3.seed N3.young key = N3.young.set i2 (woN key c) := by
            rw [cutN_eq N3.seed N3.young key c (by rw [← hlen, hi]; exact hc), ← hlen, hi]
          rw [hg]
          obtain ⟨h3, h4⟩ := RefC.lay2 hB HC3.out HF3.out hc (hq0.trans h1 (fun _ h _ => h)) h2
          exact ⟨_, h3, h4⟩
        have b4 : (0 : Int) ≤ (i2 : Int) := by omega
        have b5 : (i2 : Int) < (X3.r2.length : Int) := by omega
        clear hlen hrne hi hc hpf hrd hcl d2
        go_wp2_with fail
        refine HPL.out.mono ?_
        rintro e w' ⟨rfl, rfl⟩
        go_upto_region 22 with (fail)
        refine wp_region_held_drew (S := (fun w' => w'.cell? ⟨p, 2, none⟩ = some (.slice (some ⟨X3.t2, 0, none⟩) X3.r2.length X3.r2.length))) (by kernel_rfl) ?_ (fun hHeld => ?_)
        · exact f2d
        refine takeH (i := 0) (d := 95) (v := ?vb0) rfl (by kernel_rfl) (by kernel_rfl) (by kernel_rfl) (by kernel_rfl) (fun _ _ _ h => h) (Or.inl ⟨by kernel_rfl, ?hyb0⟩) hHeld ?restb0
        case hyb0 =>
          intro w hSw
          try dsimp only at hSw
          first | (go_simp; done) | (go_simp; with_reducible rfl)
        try simp only [Act.put, List.setIfInBounds_toArray, List.set_cons_zero, List.set_cons_succ]
        refine takeH (i := 1) (d := 96) (v := ?vb1) rfl (by kernel_rfl) (by kernel_rfl) (by kernel_rfl) (by kernel_rfl) (fun _ _ _ h => h) (Or.inl ⟨by kernel_rfl, ?hyb1⟩) hHeld ?restb1
        case hyb1 =>
          intro w hSw
          try dsimp only at hSw
          first | (go_simp; done) | (go_simp; with_reducible rfl)
        try simp only [Act.put, List.setIfInBounds_toArray, List.set_cons_zero, List.set_cons_succ]
        refine takeH (i := 2) (d := 97) (v := ?vb2) rfl (by kernel_rfl) (by kernel_rfl) (by kernel_rfl) (by kernel_rfl) (fun _ _ _ h => h) (Or.inl ⟨by kernel_rfl, ?hyb2⟩) hHeld ?restb2
        case hyb2 =>
          intro w hSw
          try dsimp only at hSw
          first | (go_simp; done) | (go_simp; with_reducible rfl)
        try simp only [Act.put, List.setIfInBounds_toArray, List.set_cons_zero, List.set_cons_succ]
        refine takeH (i := 3) (d := 98) (v := ?vb3) rfl (by kernel_rfl) (by kernel_rfl) (by kernel_rfl) (by kernel_rfl) (fun _ _ _ h => h) (Or.inl ⟨by kernel_rfl, ?hyb3⟩) hHeld ?restb3
        case hyb3 =>
          intro w hSw
          try dsimp only at hSw
          first | (go_simp; done) | (go_simp; with_reducible rfl)
        try simp only [Act.put, List.setIfInBounds_toArray, List.set_cons_zero, List.set_cons_succ]
        refine takeH (i := 4) (d := 99) (v := ?vb4) rfl (by kernel_rfl) (by kernel_rfl) (by kernel_rfl) (by kernel_rfl) (fun _ _ _ h => h) (Or.inl ⟨by kernel_rfl, ?hyb4⟩) hHeld ?restb4
        case hyb4 =>
          intro w hSw
          try dsimp only at hSw
          first | (go_simp; done) | (go_simp; with_reducible rfl)
        try simp only [Act.put, List.setIfInBounds_toArray, List.set_cons_zero, List.set_cons_succ]
        refine takeH (i := 5) (d := 100) (v := ?vb5) rfl (by kernel_rfl) (by kernel_rfl) (by kernel_rfl) (by kernel_rfl) (fun _ _ _ h => h) (Or.inl ⟨by kernel_rfl, ?hyb5⟩) hHeld ?restb5
        case hyb5 =>
          intro w hSw
          try dsimp only at hSw
          first | (go_simp; done) | (go_simp; with_reducible rfl)
        try simp only [Act.put, List.setIfInBounds_toArray, List.set_cons_zero, List.set_cons_succ]
        refine takeH (i := 6) (d := 101) (v := ?vb6) rfl (by kernel_rfl) (by kernel_rfl) (by kernel_rfl) (by kernel_rfl) (fun _ _ _ h => h) (Or.inl ⟨by kernel_rfl, ?hyb6⟩) hHeld ?restb6
        case hyb6 =>
          intro w hSw
          try dsimp only at hSw
          first | (go_simp; done) | (go_simp; with_reducible rfl)
        try simp only [Act.put, List.setIfInBounds_toArray, List.set_cons_zero, List.set_cons_succ]
        refine takeH (i := 7) (d := 102) (v := ?vb7) rfl (by kernel_rfl) (by kernel_rfl) (by kernel_rfl) (by kernel_rfl) (fun _ _ _ h => h) (Or.inl ⟨by kernel_rfl, ?hyb7⟩) hHeld ?restb7
        case hyb7 =>
          intro w hSw
          try dsimp only at hSw
          first | (go_simp; done) | (go_simp; with_reducible rfl)
        try simp only [Act.put, List.setIfInBounds_toArray, List.set_cons_zero, List.set_cons_succ]
        refine takeH (i := 8) (d := 103) (v := ?vb8) rfl (by kernel_rfl) (by kernel_rfl) (by kernel_rfl) (by kernel_rfl) (fun _ _ _ h => h) (Or.inl ⟨by kernel_rfl, ?hyb8⟩) hHeld ?restb8
        case hyb8 =>
          intro w hSw
          try dsimp only at hSw
          first | (go_simp; done) | (go_simp; with_reducible rfl)
        try simp only [Act.put, List.setIfInBounds_toArray, List.set_cons_zero, List.set_cons_succ]
        refine takeH (i := 9) (d := 104) (v := ?vb9) rfl (by kernel_rfl) (by kernel_rfl) (by kernel_rfl) (by kernel_rfl) (fun _ _ _ h => h) (Or.inl ⟨by kernel_rfl, ?hyb9⟩) hHeld ?restb9
        case hyb9 =>
          intro w hSw
          try dsimp only at hSw
          first | (go_simp; done) | (go_simp; with_reducible rfl)
        try simp only [Act.put, List.setIfInBounds_toArray, List.set_cons_zero, List.set_cons_succ]
        refine takeH (i := 10) (d := 105) (v := ?vb10) rfl (by kernel_rfl) (by kernel_rfl) (by kernel_rfl) (by kernel_rfl) (fun _ _ _ h => h) (Or.inl ⟨by kernel_rfl, ?hyb10⟩) hHeld ?restb10
        case hyb10 =>
          intro w hSw
          try dsimp only at hSw
          first | (go_simp; done) | (go_simp; with_reducible rfl)
        try simp only [Act.put, List.setIfInBounds_toArray, List.set_cons_zero, List.set_cons_succ]
        refine takeH (i := 12) (d := 107) (v := ?vb11) rfl (by kernel_rfl) (by kernel_rfl) (by kernel_rfl) (by kernel_rfl) (fun _ _ _ h => h) (Or.inl ⟨by kernel_rfl, ?hyb11⟩) hHeld ?restb11
        case hyb11 =>
          intro w hSw
          try dsimp only at hSw
          first | (go_simp; done) | (go_simp; with_reducible rfl)
        try simp only [Act.put, List.setIfInBounds_toArray, List.set_cons_zero, List.set_cons_succ]
        refine wpAnyH_ready (rs := [11]) (by kernel_rfl) (by simp) ?_
        refine AllReadyH.cons rfl (fun K hK => ?_) AllReadyH.nil
        have HH := Lib.hid hHeld
        clear hHeld
        go_simp
        refine hK.out _ _ ?_ (fun hNew => ?_)
        · exact f2d
        clear hK K HH
        have hHeld := hNew
        clear hNew
        try simp only [Act.put, List.setIfInBounds_toArray, List.set_cons_zero, List.set_cons_succ]
        refine wpAnyH_ready (rs := [13]) (by kernel_rfl) (by simp) ?_
        refine AllReadyH.cons rfl (fun K hK => ?_) AllReadyH.nil
        have HH := Lib.hid hHeld
        clear hHeld
        go_simp
        refine (HAH.out _ hq0).mono ?_
        rintro e w5 ⟨u, rfl, hru, hfq⟩
        obtain ⟨ua, uc, rfl⟩ := ow_sliceN hru
        have HRU := Lib.hid hru
        have HFQ := Lib.hid hfq
        have hz5 : w5.frozen? ⟨X3.t2, i2, none⟩ = false := (HPF.out.hold w5 hfq).1
        have hc5 : w5.cell? ⟨X3.t2, i2, none⟩ = some (.slice a2 c.length c2) := (HPF.out.hold w5 hfq).2.1
        clear hru hfq
        refine hK.out _ _ ?_ (fun hNew => ?_)
        · exact (HPF.out.hold w5 HFQ.out).2.2.1
        clear hK K HH
        have hHeld := hNew
        clear hNew
        try simp only [Act.put, List.setIfInBounds_toArray, List.set_cons_zero, List.set_cons_succ]
        refine wpAnyH_ready (rs := [14]) (by kernel_rfl) (by simp) ?_
        refine AllReadyH.cons rfl (fun K hK => ?_) AllReadyH.nil
        have HH := Lib.hid hHeld
        clear hHeld
        go_simp
        refine hK.out _ _ ?_ (fun hNew => ?_)
        · exact (HPF.out.hold w5 HFQ.out).2.2.1
        clear hK K HH
        have hHeld := hNew
        clear hNew
        try simp only [Act.put, List.setIfInBounds_toArray, List.set_cons_zero, List.set_cons_succ]
        refine wpAnyH_ready (rs := [15]) (by kernel_rfl) (by simp) ?_
        refine AllReadyH.cons rfl (fun K hK => ?_) AllReadyH.nil
        have HH := Lib.hid hHeld
        clear hHeld
        go_simp
        refine hK.out _ _ ?_ (fun hNew => ?_)
        · exact (HPF.out.hold w5 HFQ.out).2.2.2 _
        clear hK K HH
        have hHeld := hNew
        clear hNew
        try simp only [Act.put, List.setIfInBounds_toArray, List.set_cons_zero, List.set_cons_succ]
        refine wpAnyH_done (by kernel_rfl) ?_ _
        go_wp2
        go_ret
        obtain ⟨X4, hc4, hf4⟩ := HMV.out _ _ HFQ.out HRU.out
        have hsh : shrinkN (dropN N1 key) (L.length - 1) = { N3 with young := cutN N3.seed N3.young key } := by
          rw [HDR.out]
          unfold shrinkN
          rw [if_neg]
          rintro ⟨e, -⟩
          have h1 := cutN_length N3.seed N3.young key
          have h2 : cutN N3.seed N3.young key = [] := e
          rw [h2] at h1
          exact HNE2.out (List.length_eq_zero_iff.1 h1.symm)
        rw [hsh] at HFIT ⊢
        rw [HDD.out]
        exact ⟨rfl, RdTo.of hc4 hf4 HFIT.out HDZ.out⟩
      · obtain rfl : m2 = 0 := by omega
        have g3 : decide ((0 : Int) < ((0 : Nat) : Int)) = false := rfl
        have HYN : Hid (N3.young = []) := List.length_eq_zero_iff.1 HM3.out
        have HDR2 : Hid (dropN N1 key = N3) := by
          show _ = _
          rw [HDR.out, HYN.out, cutN_nil, ← HYN.out]
        obtain ⟨n3, hn3⟩ : ∃ n, N3.old.length = n := ⟨_, rfl⟩
        have d1 : W3.cell? ⟨p, 1, none⟩ = some (rowV X3.t1 X3.r1) := HC3.out.cells.2.1
        obtain ⟨b1, hv1⟩ := rowV_eq X3.t1 X3.r1
        rw [hv1, show X3.r1.length = n3 from HC3.out.row1.len.trans hn3] at d1
        have HN3 := Lib.hid hn3
        have hn3b : n3 ≤ 4398046511104 := by rw [← hn3]; exact HLN.out.1
        have hDb : D.length ≤ 2199023255552 := by have := HDL.out; omega
        clear hn3 hv1
        have w8 : IntKind.i64.wrap (8 * (D.length : Int)) = 8 * (D.length : Int) := IntWalk.i64_in _ (by omega)
        by_cases h4 : 4 < n3
        case neg =>
          have g4 : decide ((4 : Int) < (n3 : Int)) = false := decide_eq_false (by omega)
          have HNS : Hid (¬ (4 < n3 ∧ 8 * D.length ≤ n3)) := fun e => h4 e.1
          clear h4
          go_wp2_with fail
          go_ret
          have hsh : shrinkN (dropN N1 key) (L.length - 1) = N3 := by
            rw [HDR2.out]
            unfold shrinkN
            rw [if_neg]
            rintro ⟨-, e1, e2⟩
            have h1 := HN3.out
            have h2 := HDL.out
            have h3 := HNS.out
            omega
          rw [hsh] at HFIT ⊢
          rw [HDD.out]
          exact ⟨rfl, RdTo.of HC3.out HF3.out HFIT.out HDZ.out⟩
        have g4 : decide ((4 : Int) < (n3 : Int)) = true := decide_eq_true (by omega)
        by_cases h8 : 8 * D.length ≤ n3
        case neg =>
          have g8 : decide (8 * (D.length : Int) ≤ (n3 : Int)) = false := decide_eq_false (by omega)
          have HNS : Hid (¬ (4 < n3 ∧ 8 * D.length ≤ n3)) := fun e => h8 e.2
          clear h4 h8
          go_wp2_with fail
          go_ret
          have hsh : shrinkN (dropN N1 key) (L.length - 1) = N3 := by
            rw [HDR2.out]
            unfold shrinkN
            rw [if_neg]
            rintro ⟨-, e1, e2⟩
            have h1 := HN3.out
            have h2 := HDL.out
            have h3 := HNS.out
            omega
          rw [hsh] at HFIT ⊢
          rw [HDD.out]
          exact ⟨rfl, RdTo.of HC3.out HF3.out HFIT.out HDZ.out⟩
        have g8 : decide (8 * (D.length : Int) ≤ (n3 : Int)) = true := decide_eq_true (by omega)
        have HSS : Hid (4 < n3 ∧ 8 * D.length ≤ n3) := ⟨h4, h8⟩
        clear h4 h8
        go_wp2_with fail
        go_loopw [10] (fun sz wr => wr = W3 ∧ ∃ k f : Nat, sz = .int .i64 ((2 ^ (k + 2) : Nat) : Int) ∧ k + f = 64 ∧ k < 62 ∧ Hid (fitM D.length f (2 ^ (k + 2)) = fitM D.length 64 4)) (fun sz _ => D.length - (intOf sz).toNat)
        case atStart => exact ⟨rfl, 0, 64, rfl, rfl, by omega, rfl⟩
        case round =>
          obtain ⟨rfl, k, f, rfl, hkf, hk62, HFT⟩ := hrel
          obtain ⟨sz, hs⟩ : ∃ s, s = 2 ^ (k + 2) := ⟨_, rfl⟩
          rw [← hs] at HFT ⊢
          have HSZ := Lib.hid hs
          have hspos : 0 < sz := by rw [hs]; exact Nat.two_pow_pos _
          by_cases hlt : sz < D.length
          · have hk2 : k < 44 := by
              refine Nat.lt_of_not_le fun hge => ?_
              have := Nat.pow_le_pow_right (show 0 < 2 by decide) (show 44 ≤ k + 2 by omega)
              rw [← hs] at this
              omega
            clear hs
            go_wp2
            go_roundw
            case rel =>
              refine ⟨trivial, k + 1, f - 1, ?_, by omega, by omega, ?_⟩
              · have e : 2 * sz = 2 ^ (k + 1 + 2) := by rw [HSZ.out]; rw [Nat.pow_succ 2 (k + 2), Nat.mul_comm]
                rw [← e, Int.natCast_mul]; rfl
              · show _ = _
                rw [← HFT.out]
                conv => rhs; rw [show f = (f - 1) + 1 by omega]; unfold fitM
                rw [if_pos hlt, HSZ.out, Nat.pow_succ 2 (k + 2), Nat.mul_comm]
            case measure => simp [intOf]; omega
          · have hfit2 : fitM D.length f sz = sz := by
              cases f with
              | zero => rfl
              | succ f => unfold fitM; rw [if_neg hlt]
            rw [hfit2] at HFT
            have hsle : sz ≤ 4398046511104 := by
              have h1 := HFT.out
              have h2 := fitM_le D.length 64 4 (by omega)
              omega
            have hmk : ∀ w : World, (Instr.makeSlice 81 (.int .i64 (sz : Int)) (.int .i64 (sz : Int))).run Try.prog w = .ok (.slice (some ⟨w.heap.size, 0, none⟩) sz sz) (w.alloc (.cells (List.replicate sz (.slice none 0 0)).toArray 39)) :=
              fun w => mk_gen (P := Try.prog) 81 39 _ _ (.slice none 0 0) (by kernel_rfl) rfl rfl rfl rfl sz (by show 24 * sz ≤ _; omega) (by omega) w
            have fq2 : ∀ o, (wr.alloc o).frozen? ⟨p, 2, none⟩ = false := fun o => free_of_blk (alloc_old HC3.out.blk) 2
            have cq2 : ∀ o, (wr.alloc o).cell? ⟨p, 2, none⟩ = some (rowV X3.t2 X3.r2) := fun o => cell_of_blk (alloc_old HC3.out.blk) 2
            have fq3 : ∀ o, (wr.alloc o).frozen? ⟨p, 3, none⟩ = false := fun o => free_of_blk (alloc_old HC3.out.blk) 3
            have cq3 : ∀ o, (wr.alloc o).cell? ⟨p, 3, none⟩ = some (.int .i64 N3.at_) := fun o => cell_of_blk (alloc_old HC3.out.blk) 3
            clear hs hfit2 hkf d1 d2 g4 g8 w8 hpd
            go_wp2
            go_ret
            have hsh : shrinkN (dropN N1 key) (L.length - 1) = { N3 with young := List.replicate sz [], at_ := 0 } := by
              rw [HDR2.out]
              unfold shrinkN
              rw [if_pos ⟨HYN.out, by have := HN3.out; have := HSS.out; omega, by have := HN3.out; have := HSS.out; have := HDL.out; omega⟩, ← HDL.out, ← HFT.out]
            rw [hsh] at HFIT ⊢
            rw [HDD.out]
            have h1 := HC3.out.new2 (Nat.le_trans hB HF3.out.size) sz hspos
            try simp only [List.toArray_replicate] at h1
            refine ⟨rfl, RdTo.of (new_fp hB HF3.out (h1) (by simp)) ?_ HFIT.out HDZ.out⟩
            exact ((HF3.out.thenAlloc _).thenSet _ _ (fun _ => HFP.out)).thenSet _ _ (fun _ => HFP.out)
theorem rdDel_any (w : World) (B p : Nat) (F : Nat → Prop) (N : NM) (L : Pl) (X : RB) (key : ByteArray) (h : RefD w B p F N L X) (hB : B ≤ w.heap.size) (hol : N.old.length ≤ 2199023255552) (hyl : N.young.length ≤ 2199023255552) (hL : L.length ≤ 2199023255552) (hks : key.size ≤ maxLen) :
    Calls Try.prog 74 #[.pointer (some ⟨p, 0, none⟩), .string key] w fun e w' => e = .returned (.bool (fdG key L).isSome) ∧ RdTo w B p F (delN N key (fdG key L).isSome L.length) (delG L key) w' := by
  unfold delG
  cases ha : fdG key L with
  | some j =>
    rw [show (some j).isSome = true from rfl, delN_there]
    exact rdDel_there w B p F N L X key j ha h hB hol hyl hL hks
  | none =>
    have e : delN N key (none : Option Nat).isSome L.length = stepN N := by unfold delN; rw [if_neg (by decide)]
    rw [e]
    exact rdDel_none w B p F N L X key ha h hB (by omega) (by omega) hL
end Go.Proofs.Ytgomilodeaafdaa
namespace Go.Proofs.Ytgomilodeaafdaa
open Go.ChangeShapes Go.WideShapes Go.ChangeAt Go.RowKit
theorem u64n6 (n : Nat) (h : n < 18446744073709551616) : (UInt64.ofNat n).toNat = n := by rw [UInt64.toNat_ofNat']; omega
theorem wdn6 (n : Nat) (h : n < 18446744073709551616) : wd (UInt64.ofNat n) = (n : Int) := congrArg Nat.cast (u64n6 n h)
/-- a dictionary's buckets as a row of rows, read at a world -/
structure Rows6 (w : World) (v : Value) (M : DM) (t n : Nat) : Prop where
  sl : ∃ a, v = .slice a n n
  rd : ∀ k, k < n → ∃ g u, v.ownBlock = some g ∧ v = .slice (some ⟨g, 0, none⟩) n n ∧ w.cell? ⟨g, k, none⟩ = some u ∧ RdC w 1 u (bucketK M (t : Int) (k : Int)).length ((bucketK M (t : Int) (k : Int)).map .string)
theorem Rows6.fr {w w' : World} {v : Value} {M : DM} {t n : Nat} (h : Rows6 w v M t n) (hf : Fr (fun _ => False) w w') : Rows6 w' v M t n :=
  ⟨h.sl, fun k hk => by
    obtain ⟨g, u, h1, h2, h3, h4⟩ := h.rd k hk
    exact ⟨g, u, h1, h2, hf.cell h3 (fun h => h), h4.fr hf (fun _ _ h => h)⟩⟩
theorem Rows6.slice {w : World} {v : Value} {M : DM} {t n : Nat} (h : Rows6 w v M t n) : ∃ a c, v = .slice a n c := by
  obtain ⟨a, h⟩ := h.sl
  exact ⟨a, n, h⟩
theorem Rows6.at {w : World} {a : Option Addr} {c n' : Nat} {M : DM} {t n : Nat} (h : Rows6 w (.slice a n' c) M t n) (k : Nat) (hk : k < n) :
    ∃ g u, a = some ⟨g, 0, none⟩ ∧ w.cell? ⟨g, k, none⟩ = some u ∧ RdC w 1 u (bucketK M (t : Int) (k : Int)).length ((bucketK M (t : Int) (k : Int)).map .string) := by
  obtain ⟨g, u, h1, h2, h3, h4⟩ := h.rd k hk
  cases h2
  exact ⟨g, u, rfl, h3, h4⟩
set_option maxHeartbeats 1000000 in
theorem at_any (w : World) (v : Value) (M : DM) (t n : Nat) (c : UInt64) (h : Rows6 w v M t n) (hn : 0 < n) (hn2 : n ≤ 4194304) :
    Calls Try.prog 225 #[v, .int .u64 (wd c)] w fun e w' => (∃ u, e = .returned u ∧ RdC w 1 u (bucketK M (t : Int) ((c.toNat % n : Nat) : Int)).length ((bucketK M (t : Int) ((c.toNat % n : Nat) : Int)).map .string)) ∧ w = w' := by
  obtain ⟨a, cp, rfl⟩ := h.slice
  have hm : (wd c).tmod (n : Int) = ((c.toNat % n : Nat) : Int) := by
    show (((c.toNat : Nat) : Int)).tmod (n : Int) = _
    rw [← Int.ofNat_tmod]
  have hql := Nat.mod_lt c.toNat hn
  obtain ⟨q, hq⟩ : ∃ q, c.toNat % n = q := ⟨_, rfl⟩
  rw [hq] at hm hql ⊢
  obtain ⟨g, u, rfl, hc, hr⟩ := h.at q hql
  have HR := Lib.hid hr
  have hu1 : IntKind.u64.wrap (n : Int) = (n : Int) := IntWalk.u64_in _ (by omega)
  have hu2 : IntKind.i64.wrap (q : Int) = (q : Int) := IntWalk.i64_in _ (by omega)
  have hnz : ((n : Int) == 0) = false := beq_eq_false_iff_ne.2 (by omega)
  have hn0 : ¬ n = 0 := by omega
  have hn1 : ¬ (n : Int) = 0 := by omega
  clear hr h hq
  go_enter Try.func225, Try.ntmps225
  go_wp2
  go_ret
  exact ⟨⟨_, rfl, HR.out⟩, rfl⟩
theorem en_zero (p : Nat) : en 0 p = p + 1 := by unfold en; simp
/-- where nothing moves: one bucket -/
theorem turn_single {M : DM} (h : Inv M) (ho : M.old ≠ []) (hol : M.old.length ≤ 35184372088832) (hy : M.young = []) (cnt c : Nat) :
    (scanT M cnt).turnC c = aft (lg (M.old.length : Int)) c ∧ (scanT M cnt).turnK c = bucketK M 0 ((c % M.old.length : Nat) : Int) := by
  have T := tabs h ho cnt
  have hop : 0 < M.old.length := List.length_pos_iff.2 ho
  have hw : whichM M = 0 := by unfold whichM; rw [hy, if_pos (by simpa using hop)]
  have hgm : greatM M = M.old.length := by unfold greatM; rw [hy, if_pos (by simpa using hop)]
  have hsm : smallM M = 0 := by unfold smallM; rw [hy, if_pos (by simpa using hop)]; rfl
  obtain ⟨B, hB⟩ : ∃ B, scanT M cnt = B := ⟨_, rfl⟩
  have hG : ∀ q : Nat, B.G q = bucketK M (whichM M : Nat) (q : Int) := fun q => by rw [← hB]; rfl
  have hS : ∀ c : Nat, B.S c = if smallM M = 0 then [] else bucketK M ((1 - whichM M : Nat) : Int) ((c % smallM M : Nat) : Int) := fun q => by rw [← hB]; rfl
  rw [hB] at T ⊢
  have hr : B.r = 0 := by
    rcases T.small with ⟨_, e⟩ | ⟨s, e, _⟩
    · exact e
    · rw [hsm] at e; have := Nat.two_pow_pos s; omega
  have hg2 : M.old.length = 2 ^ B.g := by rw [← hgm]; exact T.great
  have hg45 := great_bound hol (by rw [hy]; simp) T.great
  have hlg : lg (M.old.length : Int) = B.g := by rw [hg2]; exact lg_pow B.g (by omega)
  refine ⟨?_, ?_⟩
  · rw [hlg]
    unfold TB.turnC aft
    rw [hr, en_zero]
  · unfold TB.turnK
    rw [hr, en_zero, blk_snoc _ _ _ _ (Nat.le_refl _), blk_nil, hS, if_pos hsm, List.nil_append, List.nil_append, hG, tr_tr, hw, hg2]
    rfl
set_option maxRecDepth 100000 in
set_option maxHeartbeats 2000000 in
theorem once_any (w : World) (v1 v2 : Value) (M : DM) (c : UInt64) (cnt : Nat) (hinv : Inv M) (ho : M.old ≠ []) (hol : M.old.length ≤ 4194304) (hyl : M.young.length ≤ 4194304) (hn : M.n ≤ 1099511627776)
    (h1 : Rows6 w v1 M 0 M.old.length) (h2 : Rows6 w v2 M 1 M.young.length) :
    Calls Try.prog 202 #[v1, v2, .int .u64 (wd c)] w fun e w' => ∃ u, e = .returned (.tuple #[.int .u64 ((scanT M cnt).turnC c.toNat : Nat), u]) ∧ RowS w.heap.size w' u ((scanT M cnt).turnK c.toNat) ∧ Below w.heap.size w w' := by
  have H1 := Lib.hid h1
  have H2 := Lib.hid h2
  obtain ⟨a1, c1, rfl⟩ := h1.slice
  obtain ⟨a2, c2, rfl⟩ := h2.slice
  obtain ⟨i0, hi, hz0, hz1, hz2⟩ := info_parts info_str
  have HI := Lib.hid hi
  have HZ0 := Lib.hid hz0
  have HZ1 := Lib.hid hz1
  have HZ2 := Lib.hid hz2
  have hop : 0 < M.old.length := List.length_pos_iff.2 ho
  clear h1 h2 hi hz0 hz1 hz2
  by_cases hy : M.young = []
  · obtain ⟨e1, e2⟩ := turn_single hinv ho (by omega) hy cnt c.toNat
    rw [e1, e2]
    have hkl := bucketK_len hinv 0 ((c.toNat % M.old.length : Nat) : Int)
    have hyz : M.young.length = 0 := by rw [hy]; rfl
    have HAF := Lib.hid (refAfter_any c (M.old.length : Int) w (by omega) (by omega))
    have HAT := Lib.hid (fun (W : World) (hf : Fr (fun _ => False) w W) => at_any W (.slice a1 M.old.length c1) M 0 M.old.length c (H1.out.fr hf) hop hol)
    rw [hyz]
    obtain ⟨A, hA⟩ : ∃ n, M.old.length = n := ⟨_, rfl⟩
    rw [hA] at HAF HAT hkl ⊢
    obtain ⟨K, hK⟩ : ∃ K, bucketK M ((0 : Nat) : Int) ((c.toNat % A : Nat) : Int) = K := ⟨_, rfl⟩
    rw [hK] at HAT
    rw [show bucketK M 0 ((c.toNat % A : Nat) : Int) = K from hK] at hkl ⊢
    have hkl2 : K.length ≤ 1099511627776 := by omega
    clear hA hK e1 e2 hkl hyz H1 H2 hop hol hyl ho
    go_enter Try.func202, Try.ntmps202
    go_wp2_with fail
    refine HAF.out.mono ?_
    rintro e w' ⟨rfl, rfl⟩
    go_wp2_with fail
    refine (HAT.out _ (Fr.alloc (fun _ => False) w _)).mono ?_
    rintro e w' ⟨⟨u, rfl, hru⟩, rfl⟩
    have HRU := Lib.hid hru
    clear hru
    obtain ⟨wq, hwq⟩ : ∃ W, w.alloc (.cells #[] 9) = W := ⟨_, rfl⟩
    have HL : Hid (wq.ownsRow w.heap.size 9 1 (.slice (some ⟨w.heap.size, 0, none⟩) 0 0) 0 []) := by rw [← hwq]; exact World.ownsRow_lit w #[] 0 (Nat.le_refl _) (by decide) rfl
    have HB : Hid (Below w.heap.size w wq) := by rw [← hwq]; exact (Below.refl _ _).alloc (Nat.le_refl _) _
    rw [hwq] at HRU ⊢
    clear hwq
    go_wp2_with (at_builtin; refine wpl_append rfl (.tmp 18) (.tmp 21) 39 rfl w.heap.size 9 i0 (.string ⟨#[]⟩) 1 16 Try.underlying39 HI.out HZ0.out HZ1.out HZ2.out rfl (by decide) _ 0 [] rfl HL.out _ K.length _ rfl HRU.out (one_strs _) (by unfold maxLen; omega) (by omega) HB.out.size ?_; intro v' w8 hown hgrow; have HO8 := Lib.hid hown; have HG8 := Lib.hid hgrow; clear hown hgrow)
    go_ret2
    refine ⟨_, rfl, rowS_app (S := []) HO8.out, HB.out.grown HG8.out HB.out.size (fun g hg => (HL.out.lt g hg).1)⟩
  · have hyp : 0 < M.young.length := List.length_pos_iff.2 hy
    have T := tabs hinv ho cnt
    obtain ⟨B, hB⟩ : ∃ B, scanT M cnt = B := ⟨_, rfl⟩
    have hG : ∀ q : Nat, B.G q = bucketK M (whichM M : Nat) (q : Int) := fun q => by rw [← hB]; rfl
    have hS : ∀ c : Nat, B.S c = if smallM M = 0 then [] else bucketK M ((1 - whichM M : Nat) : Int) ((c % smallM M : Nat) : Int) := fun q => by rw [← hB]; rfl
    rw [hB] at T ⊢
    have hg45 := great_bound (by omega) (by omega) T.great
    have hbk := fun (t i : Int) => bucketK_len hinv t i
    have hsum : ∀ q, B.r ≤ B.g → (B.S c.toNat ++ blk B.G B.g (tr B.g c.toNat) q).length ≤ 4398046511104 ∨ 2 ^ B.g < q := by
      intro q _
      by_cases hq : q ≤ 2 ^ B.g
      · left
        rw [List.length_append]
        have h3 : (B.S c.toNat).length ≤ M.n := by
          rw [hS]; split
          · simp
          · exact hbk _ _
        have h4 : (blk B.G B.g (tr B.g c.toNat) q).length ≤ M.n := by
          by_cases hpq : tr B.g c.toNat ≤ q
          · have h5 := blk_len B.G B.g (tr B.g c.toNat) q hpq
            have h6 := w_bound hinv T hq (Nat.zero_le _)
            have h7 : wG M B.g q = wt (fun i => (B.G (tr B.g i)).length) q := by
              unfold wG
              exact wt_congr _ _ _ (fun i _ => by rw [hG])
            omega
          · unfold blk
            rw [show q - tr B.g c.toNat = 0 by omega]
            simp
        omega
      · right; omega
    have hsel : ∃ (sa : Option Addr) (sc : Nat) (ga : Option Addr) (gc : Nat) (Sm Gr Wh : Nat), smallM M = Sm ∧ greatM M = Gr ∧ whichM M = Wh ∧ 0 < Sm ∧ Sm ≤ 4194304 ∧ Gr ≤ 4194304 ∧ Rows6 w (.slice sa Sm sc) M (1 - Wh) Sm ∧ Rows6 w (.slice ga Gr gc) M Wh Gr ∧
        ((M.young.length < M.old.length ∧ Value.slice sa Sm sc = .slice a2 M.young.length c2 ∧ Value.slice ga Gr gc = .slice a1 M.old.length c1) ∨ (¬ M.young.length < M.old.length ∧ Value.slice sa Sm sc = .slice a1 M.old.length c1 ∧ Value.slice ga Gr gc = .slice a2 M.young.length c2)) := by
      by_cases h : M.young.length < M.old.length
      · exact ⟨a2, c2, a1, c1, M.young.length, M.old.length, 0, by unfold smallM; rw [if_pos h], by unfold greatM; rw [if_pos h], by unfold whichM; rw [if_pos h], hyp, hyl, hol, H2.out, H1.out, .inl ⟨h, rfl, rfl⟩⟩
      · exact ⟨a1, c1, a2, c2, M.old.length, M.young.length, 1, by unfold smallM; rw [if_neg h], by unfold greatM; rw [if_neg h], by unfold whichM; rw [if_neg h], hop, hol, hyl, H1.out, H2.out, .inr ⟨h, rfl, rfl⟩⟩
    obtain ⟨sa, sc, ga, gc, Sm, Gr, Wh, hsm, hgr, hwh, hs0, hs1, hg1, hrs, hrg, hsel⟩ := hsel
    rw [hsm] at hS
    rw [hwh] at hS hG
    have hgr0 : 0 < Gr := by rw [← hgr, T.great]; exact Nat.two_pow_pos _
    have HT := Lib.hid T
    have HG := Lib.hid hG
    have HS := Lib.hid hS
    have HSM := Lib.hid hsm
    have HGR := Lib.hid hgr
    have HSUM := Lib.hid hsum
    have HATS := Lib.hid (fun (W : World) (hf : Fr (fun _ => False) w W) (c : UInt64) => at_any W (.slice sa Sm sc) M (1 - Wh) Sm c (hrs.fr hf) hs0 hs1)
    have HATG := Lib.hid (fun (W : World) (hf : Fr (fun _ => False) w W) (c : UInt64) => at_any W (.slice ga Gr gc) M Wh Gr c (hrg.fr hf) hgr0 hg1)
    obtain ⟨A, hA⟩ : ∃ n, M.old.length = n := ⟨_, rfl⟩
    obtain ⟨Y, hY⟩ : ∃ n, M.young.length = n := ⟨_, rfl⟩
    rw [hA, hY] at hsel ⊢
    rw [hY] at hyp
    have HSEL := Lib.hid hsel
    have hy0 : ((Y : Int) == 0) = false := beq_eq_false_iff_ne.2 (by omega)
    clear T hG hS hsm hgr hwh hsum hbk hrs hrg hB hsel hy ho hop hol hyl hA hY H1 H2
    go_enter Try.func202, Try.ntmps202
    go_upto_if 29 with (fail)
    go_cut [8, 9] from 23 to 31 (fun t8 t9 wc => wc = w ∧ t8 = .slice sa Sm sc ∧ t9 = .slice ga Gr gc)
    case first =>
      by_cases hlt : Y < A
      · have hs := HSEL.out.resolve_right (fun h => h.1 hlt)
        have q1 : decide (Y < A) = true := by simpa using hlt
        have E := Lib.hid hs
        clear hs
        go_wp2
        go_meet
        case rel => exact ⟨rfl, E.out.2.1.symm, E.out.2.2.symm⟩
      · have hs := HSEL.out.resolve_left (fun h => hlt h.1)
        have q1 : decide (Y < A) = false := by simpa using hlt
        have E := Lib.hid hs
        clear hs
        go_wp2
        go_meet
        case rel => exact ⟨rfl, E.out.2.1.symm, E.out.2.2.symm⟩
    case rest =>
    obtain ⟨rfl, rfl, rfl⟩ := hcut
    go_wp2_with fail
    refine (HATS.out _ (Fr.alloc (fun _ => False) wc _) c).mono ?_
    rintro e w' ⟨⟨u, rfl, hru⟩, rfl⟩
    have hS0 : bucketK M ((1 - Wh : Nat) : Int) ((c.toNat % Sm : Nat) : Int) = B.S c.toNat := by rw [HS.out, if_neg (by omega)]
    rw [hS0] at hru
    have hl0 : (B.S c.toNat).length ≤ 4398046511104 := by
      have h9 := (HSUM.out (tr B.g c.toNat) HT.out.le).resolve_right (by have := tr_lt B.g c.toNat; omega)
      rw [blk_nil, List.append_nil] at h9
      exact h9
    obtain ⟨K, hK⟩ : ∃ K, B.S c.toNat = K := ⟨_, rfl⟩
    rw [hK] at hru hl0
    have HK := Lib.hid hK
    have HRU := Lib.hid hru
    obtain ⟨wq, hwq⟩ : ∃ W, wc.alloc (.cells #[] 9) = W := ⟨_, rfl⟩
    have HL : Hid (wq.ownsRow wc.heap.size 9 1 (.slice (some ⟨wc.heap.size, 0, none⟩) 0 0) 0 []) := by rw [← hwq]; exact World.ownsRow_lit wc #[] 0 (Nat.le_refl _) (by decide) rfl
    have HB : Hid (Below wc.heap.size wc wq) := by rw [← hwq]; exact (Below.refl _ _).alloc (Nat.le_refl _) _
    rw [hwq] at HRU ⊢
    clear hwq hru hK hS0
    go_wp2_with (at_builtin; refine wpl_append rfl (.tmp 32) (.tmp 35) 39 rfl wc.heap.size 9 i0 (.string ⟨#[]⟩) 1 16 Try.underlying39 HI.out HZ0.out HZ1.out HZ2.out rfl (by decide) _ 0 [] rfl HL.out _ K.length _ rfl HRU.out (one_strs _) (by unfold maxLen; omega) (by omega) HB.out.size ?_; intro v' w8 hown hgrow; have HO8 := Lib.hid hown; have HG8 := Lib.hid hgrow; clear hown hgrow)
    obtain ⟨wl, rfl⟩ : ∃ x, x = wc := ⟨_, rfl⟩
    have HR8 : Hid (RowS wl.heap.size w8 v' K) := rowS_app (S := []) HO8.out
    have HB8 := Lib.hid (HB.out.grown HG8.out HB.out.size (fun g hg => (HL.out.lt g hg).1))
    obtain ⟨p, hp⟩ : ∃ p, tr B.g c.toNat = p := ⟨_, rfl⟩
    have HP := Lib.hid hp
    clear HO8 HG8 HL HB HRU hp HSEL
    go_loopg [2, 10] (2 ^ B.g) (fun gh t2 t10 wr => ∃ (cc : UInt64) (q : Nat), t2 = .int .u64 (wd cc) ∧ Hid (RowS wl.heap.size wr t10 (K ++ blk B.G B.g p q)) ∧ Hid (tr B.g cc.toNat = q) ∧ Hid (p ≤ q) ∧ Hid (en B.r q = en B.r p) ∧ Hid (2 ^ B.g ≤ q + gh) ∧ Hid (Below wl.heap.size wl wr))
    case atStart =>
      refine ⟨c, p, rfl, ?_, HP, Nat.le_refl p, rfl, ?_, HB8⟩
      · rw [blk_nil, List.append_nil]; exact HR8
      · show _ ≤ _; omega
    case round =>
      obtain ⟨cc, q, rfl, HR, HQ, HPQ, HEN, HGQ, HBW⟩ := hrel
      obtain ⟨v, rfl⟩ : ∃ v, v = u10 := ⟨_, rfl⟩
      obtain ⟨wo, rfl⟩ : ∃ wo, wo = wr := ⟨_, rfl⟩
      clear HR8 HB8
      have hql : q < 2 ^ B.g := by rw [← HQ.out]; exact tr_lt _ _
      have hgq : bucketK M ((Wh : Nat) : Int) ((cc.toNat % Gr : Nat) : Int) = B.G (tr B.g q) := by
        rw [HG.out, ← HQ.out, tr_tr, ← HGR.out, HT.out.great]
      have hsn : K ++ blk B.G B.g p (q + 1) = (K ++ blk B.G B.g p q) ++ B.G (tr B.g q) := by rw [blk_snoc _ _ _ _ HPQ.out, List.append_assoc]
      have hlen : ((K ++ blk B.G B.g p q) ++ B.G (tr B.g q)).length ≤ 4398046511104 := by
        rw [← hsn, ← HK.out, ← HP.out]
        exact (HSUM.out (q + 1) HT.out.le).resolve_right (by omega)
      have hat := HATG.out wo (fr_bel0 HBW.out) cc
      rw [hgq] at hat
      have HAT := Lib.hid hat
      obtain ⟨S, hS⟩ : ∃ S, K ++ blk B.G B.g p q = S := ⟨_, rfl⟩
      obtain ⟨U, hU⟩ : ∃ U, B.G (tr B.g q) = U := ⟨_, rfl⟩
      rw [hS] at HR hsn hlen
      rw [hU] at HAT hsn hlen
      rw [List.length_append] at hlen
      have HSN := Lib.hid hsn
      have hr0 := HR.out
      obtain ⟨va, vc, rfl⟩ := owns_slice hr0
      clear hat hgq hsn hS hU hr0
      go_wp2_with fail
      refine HAT.out.mono ?_
      rintro e w' ⟨⟨u, rfl, hru⟩, rfl⟩
      have HRU := Lib.hid hru
      clear hru
      go_wp2_with (at_builtin; refine wpl_append rfl (.tmp 37) (.tmp 40) 39 rfl wl.heap.size 9 i0 (.string ⟨#[]⟩) 1 16 Try.underlying39 HI.out HZ0.out HZ1.out HZ2.out rfl (by decide) _ S.length _ rfl HR.out _ U.length _ rfl HRU.out (one_strs _) (by unfold maxLen; omega) (by omega) HBW.out.size ?_; intro v' w9 hown hgrow; have HO9 := Lib.hid hown; have HG9 := Lib.hid hgrow; clear hown hgrow)
      have HR9 : Hid (RowS wl.heap.size w9 v' (K ++ blk B.G B.g p (q + 1))) := by
        show RowS _ _ _ _
        rw [HSN.out]; exact rowS_app HO9.out
      have HB9 := Lib.hid (HBW.out.grown HG9.out HBW.out.size (fun g hg => (HR.out.lt g hg).1))
      have HAF := Lib.hid (refAfter_any cc (Gr : Int) w9 (by omega) (by omega))
      have hlg : lg (Gr : Int) = B.g := by rw [← HGR.out, HT.out.great]; exact lg_pow B.g (by omega)
      rw [hlg] at HAF
      obtain ⟨a2', ha2⟩ : ∃ a, aft B.g cc.toNat = a := ⟨_, rfl⟩
      have hgr2 : Gr = 2 ^ B.g := by rw [← HGR.out]; exact HT.out.great
      have ha2l : a2' < Gr := by rw [hgr2, ← ha2]; exact aft_lt B.g cc.toNat
      have HA2 : Hid (a2' = if q + 1 = 2 ^ B.g then 0 else tr B.g (q + 1)) := by
        show _ = _
        rw [← ha2]; unfold aft; rw [HQ.out]
      rw [ha2] at HAF
      clear ha2 hlg HO9 HG9 HRU HAT HR
      go_wp2_with fail
      refine HAF.out.mono ?_
      rintro e w' ⟨rfl, rfl⟩
      have hd : (a2' / Sm = 0) ↔ (q + 1) % 2 ^ B.r = 0 := by
        rcases HT.out.small with ⟨e, _⟩ | ⟨t, e, hsg, er⟩
        · rw [HSM.out] at e; omega
        · have e2 : Sm = 2 ^ t := HSM.out.symm.trans e
          rw [HA2.out, e2]
          by_cases hq1 : q + 1 = 2 ^ B.g
          · rw [if_pos hq1, hq1, Nat.zero_div]
            refine ⟨fun _ => ?_, fun _ => rfl⟩
            rw [er, show 2 ^ B.g = 2 ^ (B.g - t) * 2 ^ t by rw [← Nat.pow_add, Nat.sub_add_cancel hsg]]
            exact Nat.mul_mod_right _ _
          · rw [if_neg hq1, hi_zero B.g t (q + 1) hsg, er]
      have hm1 : (a2' : Int).tmod (Gr : Int) = (a2' : Int) := by rw [← Int.ofNat_tmod, Nat.mod_eq_of_lt ha2l]
      have hm2 : (a2' : Int) % (Gr : Int) = (a2' : Int) := by
        show ((a2' % Gr : Nat) : Int) = _
        rw [Nat.mod_eq_of_lt ha2l]
      have hzl : a2' / Sm ≤ a2' := Nat.div_le_self _ _
      have ht1 : (a2' : Int).tdiv (Sm : Int) = ((a2' / Sm : Nat) : Int) := by
        rw [Int.tdiv_eq_ediv_of_nonneg (by omega)]; rfl
      have ht2 : (a2' : Int) / (Sm : Int) = ((a2' / Sm : Nat) : Int) := rfl
      obtain ⟨z, hz⟩ : ∃ z, a2' / Sm = z := ⟨_, rfl⟩
      rw [hz] at hd hzl ht1 ht2
      have hwz : IntKind.u64.wrap (z : Int) = (z : Int) := IntWalk.u64_in _ (by omega)
      have hwa : IntKind.u64.wrap (a2' : Int) = (a2' : Int) := IntWalk.u64_in _ (by omega)
      have hwg : IntKind.u64.wrap (Gr : Int) = (Gr : Int) := IntWalk.u64_in _ (by omega)
      have hws : IntKind.u64.wrap (Sm : Int) = (Sm : Int) := IntWalk.u64_in _ (by omega)
      have k1 : ((Gr : Int) == 0) = false := beq_eq_false_iff_ne.2 (by omega)
      have k2 : ((Sm : Int) == 0) = false := beq_eq_false_iff_ne.2 (by omega)
      have k3 : ¬ Gr = 0 := by omega
      have k4 : ¬ Sm = 0 := by omega
      have k5 : ¬ (Gr : Int) = 0 := by omega
      have k6 : ¬ (Sm : Int) = 0 := by omega
      have hq3 : IntKind.u64.wrap ((a2' : Int) / (Sm : Int)) = (z : Int) := by rw [ht2, hwz]
      have hU2 := u64n6 a2' (by omega)
      have HU2 := Lib.hid hU2
      have HW2 := Lib.hid (wdn6 a2' (by omega))
      clear hz hU2 hzl hgr2
      by_cases hx : (q + 1) % 2 ^ B.r = 0
      · have hz0 : z = 0 := hd.2 hx
        have heq : en B.r p = q + 1 := by rw [← HEN.out]; exact en_hit B.r q hx
        have HX1 : Hid (RowS wl.heap.size w9 v' (B.turnK c.toNat)) := by
          show RowS _ _ _ _
          unfold TB.turnK
          rw [HP.out, heq, HK.out]; exact HR9.out
        have HX2 : Hid (a2' = B.turnC c.toNat) := by
          show _ = _
          unfold TB.turnC
          rw [HP.out, heq, HA2.out]
        subst hz0
        clear hx heq hd
        go_wp2
        go_ret2
        exact ⟨_, by rw [HX2.out]; rfl, HX1.out, HB9.out⟩
      · have hz0 : ((z : Int) == 0) = false := beq_eq_false_iff_ne.2 (fun e => hx (hd.1 (by omega)))
        have hz1 : ¬ z = 0 := fun e => hx (hd.1 e)
        have hq1 : ¬ q + 1 = 2 ^ B.g := by
          intro e
          refine hx ?_
          rw [e, show 2 ^ B.g = 2 ^ (B.g - B.r) * 2 ^ B.r by rw [← Nat.pow_add, Nat.sub_add_cancel HT.out.le]]
          exact Nat.mul_mod_left _ _
        have HX1 : Hid (tr B.g (UInt64.ofNat a2').toNat = q + 1) := by
          show _ = _
          rw [HU2.out, HA2.out, if_neg hq1, tr_tr, Nat.mod_eq_of_lt (by omega)]
        have HX2 : Hid (en B.r (q + 1) = en B.r p) := by
          show _ = _
          rw [en_miss B.r q hx]; exact HEN.out
        clear hx hd
        go_wp2
        go_roundg (2 ^ B.g - (q + 1))
        case measure => have := HGQ.out; omega
        case rel =>
          refine ⟨_, q + 1, by rw [HW2.out], HR9, HX1, ?_, HX2, ?_, HB9⟩
          · show _ ≤ _; have := HPQ.out; omega
          · show _ ≤ _; omega
section
variable {α : Type}
theorem TB.turnC_cur (T : TB α) (hr : T.r ≤ T.g) (c : Nat) : T.turnC c = T.cur (tr T.g c / 2 ^ T.r + 1) ∧ tr T.g c / 2 ^ T.r + 1 ≤ T.J := by
  have hJ := T.J_mul hr
  have hpl := tr_lt T.g c
  refine ⟨?_, ?_⟩
  · unfold TB.turnC TB.cur en
    by_cases h : tr T.g c / 2 ^ T.r + 1 = T.J
    · rw [if_pos h, if_pos (by rw [h]; exact hJ)]
    · rw [if_neg h, if_neg]
      intro e
      rw [← hJ] at e
      exact h (Nat.eq_of_mul_eq_mul_right (Nat.two_pow_pos _) e)
  · show tr T.g c / 2 ^ T.r < T.J
    rw [Nat.div_lt_iff_lt_mul (Nat.two_pow_pos _), hJ]; exact hpl
/-- behind some turns: the cursor ahead of stretch j, and what has been told -/
structure NX (T : TB α) (c j : Nat) (L : List α) : Prop where
  lo : tr T.g c / 2 ^ T.r < j
  hi : j ≤ T.J
  told : L = T.turnK c ++ T.seg (tr T.g c / 2 ^ T.r + 1) j
  tie : T.nxt c [] = if T.cur j = 0 ∨ T.cnt ≤ L.length then (T.cur j, L) else T.nxt (T.cur j) L
theorem NX.start (T : TB α) (hr : T.r ≤ T.g) (c : Nat) : NX T c (tr T.g c / 2 ^ T.r + 1) (T.turnK c) := by
  obtain ⟨h1, h2⟩ := T.turnC_cur hr c
  refine ⟨Nat.lt_succ_self _, h2, by rw [T.seg_nil, List.append_nil], ?_⟩
  rw [T.nxt_eq hr, h1, List.nil_append]
theorem NX.step {T : TB α} (hr : T.r ≤ T.g) {c j : Nat} {L : List α} (h : NX T c j L) (h0 : T.cur j ≠ 0) (hl : ¬ T.cnt ≤ L.length) :
    T.turnC (T.cur j) = T.cur (j + 1) ∧ T.turnK (T.cur j) = T.turnJ j ∧ j < T.J ∧ NX T c (j + 1) (L ++ T.turnJ j) := by
  obtain ⟨hj, hc⟩ := cur_pos T hr h.hi h0
  obtain ⟨e1, e2⟩ := T.turn_at hr hj
  rw [← hc] at e1 e2
  have hs : T.seg (tr T.g c / 2 ^ T.r + 1) (j + 1) = T.seg (tr T.g c / 2 ^ T.r + 1) j ++ T.turnJ j := by
    rw [T.seg_append h.lo (Nat.le_succ j), T.seg_succ (Nat.lt_succ_self j), T.seg_nil, List.append_nil]
  refine ⟨e2, e1, hj, Nat.lt_succ_of_lt h.lo, hj, by rw [hs, h.told, List.append_assoc], ?_⟩
  rw [h.tie, if_neg (fun e => e.elim h0 hl), T.nxt_eq hr, e1, e2]
theorem NX.done {T : TB α} {c j : Nat} {L : List α} (h : NX T c j L) (hd : T.cur j = 0 ∨ T.cnt ≤ L.length) : T.nxt c [] = (T.cur j, L) := by rw [h.tie, if_pos hd]
end
theorem NX.len {M : DM} (h : Inv M) (ho : M.old ≠ []) {cnt c j : Nat} {L : List ByteArray} (hx : NX (scanT M cnt) c j L) : L.length ≤ 3 * M.n := by
  have h1 := turn_len h ho cnt c
  have h2 := seg_len h ho cnt j hx.hi
  have h3 : ((scanT M cnt).seg (tr (scanT M cnt).g c / 2 ^ (scanT M cnt).r + 1) j).length ≤ ((scanT M cnt).seg 0 j).length := by
    rw [(scanT M cnt).seg_append (Nat.zero_le (tr (scanT M cnt).g c / 2 ^ (scanT M cnt).r + 1)) hx.lo, List.length_append]
    exact Nat.le_add_left _ _
  rw [hx.told, List.length_append]
  omega
set_option maxRecDepth 100000 in
set_option maxHeartbeats 2000000 in
theorem refNext_any (w : World) (v1 v2 : Value) (M : DM) (c : UInt64) (count : Int) (hinv : Inv M) (hol : M.old.length ≤ 4194304) (hyl : M.young.length ≤ 4194304) (hn : M.n ≤ 1099511627776)
    (hcl : -9223372036854775808 ≤ count) (hch : count ≤ 9223372036854775807)
    (h1 : Rows6 w v1 M 0 M.old.length) (h2 : Rows6 w v2 M 1 M.young.length) :
    Calls Try.prog 167 #[v1, v2, .int .u64 (wd c), .int .i64 count] w fun e w' => ∃ u, e = .returned (.tuple #[.int .u64 ((scanK M c.toNat count).1 : Nat), u]) ∧ RowS w.heap.size w' u (scanK M c.toNat count).2 ∧ Below w.heap.size w w' := by
  have H1 := Lib.hid h1
  have H2 := Lib.hid h2
  by_cases ho : M.old = []
  · have hr : scanK M c.toNat count = (0, []) := by unfold scanK; rw [if_pos ho]
    have h0 : M.old.length = 0 := by rw [ho]; rfl
    rw [hr]
    obtain ⟨a1, c1, rfl⟩ := h1.slice
    obtain ⟨a2, c2, rfl⟩ := h2.slice
    rw [h0]
    clear h1 h2 H1 H2 hr h0 ho
    go_enter Try.func167, Try.ntmps167
    go_wp2
    go_ret2
    exact ⟨_, rfl, World.ownsRow_nil _ _ _ _, Below.refl _ _⟩
  · have T := tabs hinv ho (max count 1).toNat
    have hN0 := NX.start (scanT M (max count 1).toNat) T.le c.toNat
    have hdone := fun (j : Nat) (L : List ByteArray) (hx : NX (scanT M (max count 1).toNat) c.toNat j L) (hd : (scanT M (max count 1).toNat).cur j = 0 ∨ (max count 1).toNat ≤ L.length) => (show scanK M c.toNat count = ((scanT M (max count 1).toNat).cur j, L) by unfold scanK; rw [if_neg ho]; exact hx.done hd)
    have hlen := fun (j : Nat) (L : List ByteArray) (hx : NX (scanT M (max count 1).toNat) c.toNat j L) => hx.len hinv ho
    have hstep := fun (j : Nat) (L : List ByteArray) (hx : NX (scanT M (max count 1).toNat) c.toNat j L) (h0 : (scanT M (max count 1).toNat).cur j ≠ 0) (hl : ¬ (max count 1).toNat ≤ L.length) => hx.step T.le h0 hl
    have HON := Lib.hid (fun (W : World) (hf : Fr (fun _ => False) w W) (c' : UInt64) => once_any W v1 v2 M c' (max count 1).toNat hinv ho hol hyl hn (H1.out.fr hf) (H2.out.fr hf))
    have hcur : ∀ j, (scanT M (max count 1).toNat).cur j < 18446744073709551616 := fun j => by
      have e1 := TB.cur_lt (scanT M (max count 1).toNat) j
      have e2 := great_bound (by omega) (by omega) T.great
      have e3 : 2 ^ (scanT M (max count 1).toNat).g ≤ 2 ^ 45 := Nat.pow_le_pow_right (by decide) e2
      omega
    obtain ⟨ht1, _⟩ := (scanT M (max count 1).toNat).turnC_cur T.le c.toNat
    obtain ⟨B, hB⟩ : ∃ B, scanT M (max count 1).toNat = B := ⟨_, rfl⟩
    rw [hB] at hN0 hdone hlen hstep HON hcur ht1
    have HDONE := Lib.hid hdone
    have HLEN := Lib.hid hlen
    have HSTEP := Lib.hid hstep
    have HCUR := Lib.hid hcur
    have HN0 := Lib.hid hN0
    have hA0 : 0 < M.old.length := List.length_pos_iff.2 ho
    obtain ⟨a1, c1, rfl⟩ := h1.slice
    obtain ⟨a2, c2, rfl⟩ := h2.slice
    have hAz : ((M.old.length : Int) == 0) = false := beq_eq_false_iff_ne.2 (by omega)
    obtain ⟨A, hA⟩ : ∃ n, M.old.length = n := ⟨_, rfl⟩
    rw [hA] at HON hAz ⊢
    have HT1 := Lib.hid ht1
    obtain ⟨i0, hi, hz0, hz1, hz2⟩ := info_parts info_str
    have HI := Lib.hid hi
    have HZ0 := Lib.hid hz0
    have HZ1 := Lib.hid hz1
    have HZ2 := Lib.hid hz2
    clear h1 h2 H1 H2 T hN0 hdone hlen hstep hcur hB hA hol hi hz0 hz1 hz2 ht1 hA0 ho
    go_enter Try.func167, Try.ntmps167
    go_wp2_with fail
    refine (HON.out w (Fr.refl _ _) c).mono ?_
    rintro e w1 ⟨u, rfl, hru, hb1⟩
    have HRU := Lib.hid hru
    have HB1 := Lib.hid hb1
    clear hru hb1
    go_wp2_with fail
    have hst : Hid (B.turnC c.toNat = B.cur (tr B.g c.toNat / 2 ^ B.r + 1)) := HT1.out
    have HCV := Lib.hid (u64n6 _ (HCUR.out (tr B.g c.toNat / 2 ^ B.r + 1)))
    have HWV := Lib.hid (wdn6 _ (HCUR.out (tr B.g c.toNat / 2 ^ B.r + 1)))
    go_loopg [10, 11] B.J (fun gh t10 t11 wr => ∃ (cc : UInt64) (j : Nat) (L : List ByteArray), t10 = .int .u64 (wd cc) ∧ Hid (cc.toNat = B.cur j) ∧ Hid (NX B c.toNat j L) ∧ Hid (RowS w.heap.size wr t11 L) ∧ Hid (Below w.heap.size w wr) ∧ Hid (B.J ≤ j + gh))
    case atStart => exact ⟨UInt64.ofNat (B.cur (tr B.g c.toNat / 2 ^ B.r + 1)), _, _, by rw [HWV.out, hst.out], HCV.out, HN0, HRU, HB1, (Nat.le_add_left _ _ : B.J ≤ _)⟩
    case round =>
      obtain ⟨cc, j, L, rfl, HCC, HX, HR, HB, HJ⟩ := hrel
      obtain ⟨v, rfl⟩ : ∃ v, v = u11 := ⟨_, rfl⟩
      obtain ⟨wo, rfl⟩ : ∃ wo, wo = wr := ⟨_, rfl⟩
      clear HRU HB1 HCV HWV hst HN0
      have hr0 := HR.out
      obtain ⟨va, vc, rfl⟩ := owns_slice hr0
      have hL := HLEN.out j L HX.out
      obtain ⟨cn, hcn⟩ : ∃ n, cc.toNat = n := ⟨_, rfl⟩
      have hwc : wd cc = (cn : Int) := congrArg Nat.cast hcn
      rw [hcn] at HCC
      rw [hwc]
      have HWC := Lib.hid hwc
      have HCN := Lib.hid hcn
      clear hr0 hcn hwc
      by_cases hz : cn = 0
      · have hD := HDONE.out j L HX.out (.inl (HCC.out.symm.trans hz))
        rw [← HCC.out, hz] at hD
        have HD := Lib.hid hD
        subst hz
        clear hD
        go_wp2
        go_ret2
        exact ⟨_, by rw [HD.out]; rfl, by rw [HD.out]; exact HR.out, HB.out⟩
      · have q3 : ((cn : Int) != 0) = true := by rw [bne_iff_ne]; omega
        by_cases hm : max count 1 ≤ (L.length : Int)
        · have hD := HDONE.out j L HX.out (.inr (by omega))
          rw [← HCC.out] at hD
          have HD := Lib.hid hD
          have q4 : ¬ (L.length : Int) < max count 1 := by omega
          have q5 : decide ((L.length : Int) < max count 1) = false := decide_eq_false q4
          clear hD
          go_wp2
          all_goals
            go_ret2
            exact ⟨_, by rw [HD.out]; rfl, by rw [HD.out]; exact HR.out, HB.out⟩
        · obtain ⟨e1, e2, e3, e4⟩ := HSTEP.out j L HX.out (by rw [← HCC.out]; exact hz) (by omega)
          have hon := HON.out wo (fr_bel0 HB.out) cc
          rw [HWC.out, HCN.out, HCC.out, e1, e2, ← HCC.out] at hon
          have HN := Lib.hid hon
          have HX4 := Lib.hid e4
          have hl4 := HLEN.out (j + 1) _ e4
          obtain ⟨U, hU⟩ : ∃ U, B.turnJ j = U := ⟨_, rfl⟩
          rw [hU] at HN HX4 hl4
          rw [List.length_append] at hl4
          have HCV := Lib.hid (u64n6 _ (HCUR.out (j + 1)))
          have HWV := Lib.hid (wdn6 _ (HCUR.out (j + 1)))
          have q4 : (L.length : Int) < max count 1 := by omega
          have q5 : decide ((L.length : Int) < max count 1) = true := decide_eq_true q4
          clear hon e1 e2 e4 hU hz hm
          go_wp2_with fail
          all_goals
            refine HN.out.mono ?_
            rintro e w3 ⟨u, rfl, hru, hb3⟩
            have HR3 := Lib.hid (ow_fr HR.out (fr_bel0 hb3) (fun _ _ h => h))
            have HB3 := Lib.hid (HB.out.trans (hb3.mono HB.out.size))
            have HRD := Lib.hid (RdC.of_owns hru)
            clear hru hb3
            go_wp2_with (at_builtin; refine wpl_append rfl (.tmp 41) (.tmp 42) 39 rfl w.heap.size 9 i0 (.string ⟨#[]⟩) 1 16 Try.underlying39 HI.out HZ0.out HZ1.out HZ2.out rfl (by decide) _ L.length _ rfl HR3.out _ U.length _ rfl HRD.out (one_strs _) (by unfold maxLen; omega) (by omega) HB3.out.size ?_; intro v' w9 hown hgrow; have HO9 := Lib.hid hown; have HG9 := Lib.hid hgrow; clear hown hgrow)
            go_roundg (B.J - (j + 1))
            case measure => have := HJ.out; omega
            case rel => exact ⟨UInt64.ofNat (B.cur (j + 1)), j + 1, L ++ U, by rw [HWV.out], HCV.out, HX4, rowS_app HO9.out, HB3.out.grown HG9.out HB3.out.size (fun g hg => (HR3.out.lt g hg).1), (show _ ≤ _ by omega)⟩
end Go.Proofs.Ytgomilodeaafdaa
namespace Go.Proofs.Ytgomilodeaafdaa
open Go.RowKit
theorem bucket_at {M : DM} {t : Nat} (ht : t = 0 ∨ t = 1) (k : Nat) : bucketK M (t : Int) (k : Int) = nm (((tabOf M t)[k]?).getD []) := by
  unfold bucketK
  rw [if_pos ⟨by omega, by omega⟩]
  rfl
section
variable {w w' : World} {B p : Nat} {F : Nat → Prop} {N : NM} {M : DM} {K : List ByteArray} {V : List Int} {X : RB}
theorem RowsV.rows6 {t : Nat} {r : List Value} {cs : List (List E)} {tt : Nat} (h : RowsV w F t r (cs.map nm)) (ht : tt = 0 ∨ tt = 1) (hc : tabOf M (tt : Int) = cs) : Rows6 w (rowV t r) M tt cs.length := by
  have hl : r.length = cs.length := by rw [h.len, List.length_map]
  refine ⟨?_, fun k hk => ?_⟩
  · obtain ⟨a, e⟩ := rowV_eq t r
    exact ⟨a, by rw [e, hl]⟩
  · obtain ⟨v, h1, h2, h3, h4, h5⟩ := h.at k (nm cs[k]) (by rw [List.getElem?_map, List.getElem?_eq_getElem hk]; rfl)
    have e := rowV_of (t := t) h2
    have eb : bucketK M (tt : Int) (k : Int) = nm cs[k] := by
      rw [bucket_at ht, hc, List.getElem?_eq_getElem hk]; rfl
    refine ⟨t, v, by rw [e]; rfl, by rw [e, hl], h3, ?_⟩
    rw [eb]
    exact h5.1
theorem RefC.rows6 (h : RefC w B p F (nmM M) K V X) : Rows6 w (rowV X.t1 X.r1) M 0 M.old.length ∧ Rows6 w (rowV X.t2 X.r2) M 1 M.young.length :=
  ⟨RowsV.rows6 h.row1 (.inl rfl) rfl, RowsV.rows6 h.row2 (.inr rfl) rfl⟩
end
theorem rdTables_any (w : World) (B p : Nat) (F : Nat → Prop) (N : NM) (K : List ByteArray) (V : List Int) (X : RB) (h : RefC w B p F N K V X) :
    Calls Try.prog 166 #[.pointer (some ⟨p, 0, none⟩)] w fun e w' => e = .returned (.tuple #[rowV X.t1 X.r1, rowV X.t2 X.r2]) ∧ ∃ m, w' = w.drewN m := by
  have c1 := h.cells.2.1
  have c2 := h.cells.2.2.1
  obtain ⟨a1, e1⟩ := rowV_eq X.t1 X.r1
  obtain ⟨a2, e2⟩ := rowV_eq X.t2 X.r2
  rw [e1] at c1 ⊢
  rw [e2] at c2 ⊢
  clear h e1 e2
  go_enter Try.func166, Try.ntmps166
  go_wp2
  go_quiet (fail)
  go_wp2
  go_ret2
  exact ⟨rfl, _, rfl⟩
end Go.Proofs.Ytgomilodeaafdaa
namespace Go.Proofs.Ytgomilodeaafdaa
open Go.RowKit
theorem seed_mk (s : UInt64) (o y : List (List ByteArray)) (a : Nat) : (NM.mk s o y a).seed = s := rfl
theorem moveN_seed (N : NM) (a : Nat) : (moveN N a).seed = N.seed := by unfold moveN; split <;> exact seed_mk _ _ _ _
theorem endN_seed (N : NM) : (endN N).seed = N.seed := by
  unfold endN
  split
  · exact seed_mk _ _ _ _
  · exact Eq.refl _
theorem stepN_seed (N : NM) : (stepN N).seed = N.seed := by
  unfold stepN
  split
  · rfl
  · rw [endN_seed, moveN_seed]
theorem addN_seed (N : NM) (key : ByteArray) : (addN N key).seed = N.seed := by unfold addN; split <;> exact seed_mk _ _ _ _
theorem shrinkN_seed (N : NM) (n : Nat) : (shrinkN N n).seed = N.seed := by
  unfold shrinkN
  split
  · exact seed_mk _ _ _ _
  · exact Eq.refl _
theorem dropN_seed (N : NM) (key : ByteArray) : (dropN N key).seed = N.seed := by unfold dropN; exact seed_mk _ _ _ _
theorem setN_seed (N : NM) (key : ByteArray) (b : Bool) (n : Nat) : (setN N key b n).seed = N.seed := by
  unfold setN
  split
  · exact stepN_seed N
  · rw [addN_seed, (grow_lens (stepN N) n).2.2.2, stepN_seed]
theorem delN_seed (N : NM) (key : ByteArray) (b : Bool) (n : Nat) : (delN N key b n).seed = N.seed := by
  unfold delN
  split
  · rw [shrinkN_seed, dropN_seed, stepN_seed]
  · exact stepN_seed N
theorem grow_lens2 (N : NM) (key : ByteArray) (n K : Nat) (b : Bool) (ho : N.old.length ≤ max 4 (2 * K)) (hy : N.young.length ≤ max 4 (2 * K)) (hn : n ≤ K) : (setN N key b n).old.length ≤ max 4 (2 * K) ∧ (setN N key b n).young.length ≤ max 4 (2 * K) := by
  obtain ⟨h1, h2⟩ := stepN_lens ho hy
  unfold setN
  split
  · exact ⟨h1, h2⟩
  · have ha : ∀ G : NM, (addN G key).old.length = G.old.length ∧ (addN G key).young.length = G.young.length := fun G => by
      unfold addN
      split
      · exact ⟨hangN_length _ _ _, rfl⟩
      · exact ⟨rfl, hangN_length _ _ _⟩
    rw [(ha _).1, (ha _).2]
    unfold growN
    split
    · exact ⟨by simp; omega, h2⟩
    · split
      · rename_i hc
        refine ⟨h1, ?_⟩
        simp only [List.length_replicate]
        have := hc.2
        omega
      · exact ⟨h1, h2⟩
theorem del_lens2 (N : NM) (key : ByteArray) (n K : Nat) (b : Bool) (ho : N.old.length ≤ max 4 (2 * K)) (hy : N.young.length ≤ max 4 (2 * K)) (hn : n ≤ K) : (delN N key b n).old.length ≤ max 4 (2 * K) ∧ (delN N key b n).young.length ≤ max 4 (2 * K) := by
  obtain ⟨h1, h2⟩ := stepN_lens ho hy
  unfold delN
  split
  · have hd : (dropN (stepN N) key).old.length = (stepN N).old.length ∧ (dropN (stepN N) key).young.length = (stepN N).young.length := ⟨cutN_length _ _ _, cutN_length _ _ _⟩
    unfold shrinkN
    split
    · refine ⟨by rw [hd.1]; exact h1, ?_⟩
      simp only [List.length_replicate]
      have := fitM_le (n - 1) 64 4 (by omega)
      omega
    · exact ⟨by rw [hd.1]; exact h1, by rw [hd.2]; exact h2⟩
  · exact ⟨h1, h2⟩
end Go.Proofs.Ytgomilodeaafdaa

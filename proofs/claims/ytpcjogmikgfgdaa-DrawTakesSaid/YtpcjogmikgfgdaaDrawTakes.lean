/- DrawTakes: every script of questions to two sources, and to none; the lists stay, and are not kept. No condition. -/
import Derived.Test.YtpcjogmikgfgdaaDrawAsks
import Derived.Laws.MakeOwn
import Derived.Laws.NewBlocks
import Derived.Deep.LoopGhost
namespace Go.Proofs.Ytpcjogmikgfgdaa
open Go.ChangeShapes Go.WideShapes Go.ChangeAt Go.RowKit
theorem madeCells_one (v : Value) (n : Nat) : madeCells #[v] n = (List.replicate n v).toArray := by
  unfold madeCells
  apply Array.ext
  · simp
  · intro i h1 h2
    simp [Nat.mod_one]
theorem mk_words (n : Nat) (hn : n ≤ 17592186044416) (w : World) :
    (Instr.makeSlice 22 (.int .i64 0) (.int .i64 n)).run Try.prog w = .ok (.slice (some ⟨w.heap.size, 0, none⟩) 0 n) (w.alloc (.cells (List.replicate n (.int .u64 0)).toArray 24)) := by
  obtain ⟨i0, hi, hz0, hz1, hz2⟩ := info_parts Try.info24
  have h := run_make (P := Try.prog) (w := w) 22 24 i0 (.int .u64 0) Try.underlying22 hi hz0 .i64 .i64 0 n (by omega) (by omega) (by rw [hz2]; omega) (by omega)
  rw [h, hz1, Nat.mul_one, Int.toNat_natCast, show (Value.int IntKind.u64 0).cells = #[.int .u64 0] from rfl, madeCells_one]
  rfl
/-- a row with an element lies in a block -/
theorem own_some {w : World} {B : Nat} {e : TypeId} {v : Value} {n : Nat} {xs : List Value} (h : w.ownsRow B e 1 v n xs) (hn : 0 < n) :
    ∃ g cap, v = .slice (some ⟨g, 0, none⟩) n cap ∧ n ≤ cap ∧ cap ≤ maxLen ∧ B ≤ g ∧ g < w.heap.size ∧ (∀ i, w.frozen? ⟨g, i, none⟩ = false) ∧ ∀ (i : Nat) (u : Value), xs[i]? = some u → w.cell? ⟨g, i, none⟩ = some u := by
  have h0 := h
  rcases h with ⟨h1, ⟨_, hz⟩ | ⟨g, cap, cur, rfl, hb, hg, hnc, hcm, hcs, htake⟩⟩
  · subst hz; simp at h1; omega
  · refine ⟨g, cap, rfl, hnc, hcm, hb, (Array.getElem?_eq_some_iff.1 hg).1, fun i => free_of_blk hg i, fun i u hu => ?_⟩
    have := h0.cells rfl i u hu
    rwa [Addr.add_lit, Nat.zero_add] at this
theorem own_put {w : World} {B : Nat} {e : TypeId} {g n cap : Nat} {xs : List Value} (h : w.ownsRow B e 1 (.slice (some ⟨g, 0, none⟩) n cap) n xs) (i : Nat) (hi : i < n) (x : Value) :
    (w.setCell ⟨g, i, none⟩ x).ownsRow B e 1 (.slice (some ⟨g, 0, none⟩) n cap) n (xs.set i x) := by
  rcases h with ⟨h1, ⟨h2, _⟩ | ⟨g', cap', cur, he, hb, hg, hnc, hcm, hcs, htake⟩⟩
  · cases h2
  · cases he
    have e1 := heap_setCell_same w g i cur _ x hg
    refine ⟨by simpa using h1, .inr ⟨g, cap, _, rfl, hb, e1, hnc, hcm, by simpa using hcs, ?_⟩⟩
    rw [← htake]
    simp only [Array.toList_setIfInBounds, List.take_set, List.length_set]
structure Dz (w0 : World) (b0 b1 b2 b3 b4 ps pt pm pn : Nat) (l m : List UInt64) (w : World) : Prop where
  s : SrcAt w ps l (fun k => b0 ≤ k ∧ k < b1)
  t : SrcAt w pt m (fun k => b1 ≤ k ∧ k < b2)
  ms : RefAt w pm l (fun k => b2 ≤ k ∧ k < b3)
  ns : RefAt w pn m (fun k => b3 ≤ k ∧ k < b4)
  bel : Below w0.heap.size w0 w
  lo : w0.heap.size ≤ b0
  i1 : b0 ≤ b1
  i2 : b1 ≤ b2
  i3 : b2 ≤ b3
  i4 : b3 ≤ b4
  hi : b4 ≤ w.heap.size
theorem Dz.fr {w0 w w' : World} {b0 b1 b2 b3 b4 ps pt pm pn : Nat} {l m : List UInt64} (h : Dz w0 b0 b1 b2 b3 b4 ps pt pm pn l m w) {T : Nat → Prop} (hf : Fr T w w') (hT : ∀ k, T k → w0.heap.size ≤ k ∧ (k < b0 ∨ b4 ≤ k)) : Dz w0 b0 b1 b2 b3 b4 ps pt pm pn l m w' := by
  have i1 := h.i1
  have i2 := h.i2
  have i3 := h.i3
  have i4 := h.i4
  exact ⟨h.s.fr hf (fun k hk ht => by have := (hT k ht).2; omega), h.t.fr hf (fun k hk ht => by have := (hT k ht).2; omega), h.ms.fr hf (fun k hk ht => by have := (hT k ht).2; omega), h.ns.fr hf (fun k hk ht => by have := (hT k ht).2; omega),
    h.bel.trans (hf.below h.bel.size (fun k hk => (hT k hk).1)), h.lo, i1, i2, i3, i4, Nat.le_trans h.hi hf.size⟩
theorem Dz.one {w0 w w' : World} {b0 b1 b2 b3 b4 ps pt pm pn : Nat} {l m l' : List UInt64} (h : Dz w0 b0 b1 b2 b3 b4 ps pt pm pn l m w) {e : Ending} (hq : AsksPost w ps pm l' (fun k => b0 ≤ k ∧ k < b1) (fun k => b2 ≤ k ∧ k < b3) e w') : Dz w0 b0 b1 b2 b3 b4 ps pt pm pn l' m w' := by
  obtain ⟨_, hs, hm, hf⟩ := hq
  have i1 := h.i1
  have i2 := h.i2
  have i3 := h.i3
  have i4 := h.i4
  have lo := h.lo
  have p1 : b0 ≤ ps ∧ ps < b1 := h.s.in_
  have p2 : b2 ≤ pm ∧ pm < b3 := h.ms.in_
  exact ⟨hs, h.t.fr hf (fun k ⟨hk1, hk2⟩ ht => by rcases ht with rfl | rfl <;> omega), hm, h.ns.fr hf (fun k ⟨hk1, hk2⟩ ht => by rcases ht with rfl | rfl <;> omega),
    h.bel.trans (hf.below h.bel.size (fun k ht => by rcases ht with rfl | rfl <;> omega)), lo, i1, i2, i3, i4, Nat.le_trans h.hi hf.size⟩
theorem Dz.two {w0 w w' : World} {b0 b1 b2 b3 b4 ps pt pm pn : Nat} {l m m' : List UInt64} (h : Dz w0 b0 b1 b2 b3 b4 ps pt pm pn l m w) {e : Ending} (hq : AsksPost w pt pn m' (fun k => b1 ≤ k ∧ k < b2) (fun k => b3 ≤ k ∧ k < b4) e w') : Dz w0 b0 b1 b2 b3 b4 ps pt pm pn l m' w' := by
  obtain ⟨_, hs, hm, hf⟩ := hq
  have i1 := h.i1
  have i2 := h.i2
  have i3 := h.i3
  have i4 := h.i4
  have lo := h.lo
  have p1 : b1 ≤ pt ∧ pt < b2 := h.t.in_
  have p2 : b3 ≤ pn ∧ pn < b4 := h.ns.in_
  exact ⟨h.s.fr hf (fun k ⟨hk1, hk2⟩ ht => by rcases ht with rfl | rfl <;> omega), hs, h.ms.fr hf (fun k ⟨hk1, hk2⟩ ht => by rcases ht with rfl | rfl <;> omega), hm,
    h.bel.trans (hf.below h.bel.size (fun k ht => by rcases ht with rfl | rfl <;> omega)), lo, i1, i2, i3, i4, Nat.le_trans h.hi hf.size⟩
set_option maxRecDepth 100000 in
set_option maxHeartbeats 4000000 in
theorem drawTakes_walk (w : World) (v0 : Value) (L1 : List UInt64) (hr1 : RdC w 1 v0 L1.length (L1.flatMap (fun u => [u64 u]))) (hby1 : L1.length * 8 ≤ reachBytes) (v1 : Value) (L2 : List UInt64) (hr2 : RdC w 1 v1 L2.length (L2.flatMap (fun u => [u64 u]))) (hby2 : L2.length * 8 ≤ reachBytes)
    (v2 : Value) (l : List Qn) (hr3 : RdC w 3 v2 l.length (l.flatMap qn)) (hby3 : l.length * 24 ≤ reachBytes) :
    Calls Try.prog 3 #[v0, v1, v2] w fun e w' => e = .returned (.bool true) ∧ Below w.heap.size w w' := by
  unfold reachBytes at hby1 hby2 hby3
  rw [word_flat] at hr1 hr2
  have hln1 := hr1.len
  have hln2 := hr2.len
  have hln3 := hr3.len
  unfold maxLen at hln1 hln2 hln3
  obtain ⟨i0, hi, hz0, hz1, hz2⟩ := info_parts Try.info24
  have HI := Lib.hid hi
  have HZ0 := Lib.hid hz0
  have HZ1 := Lib.hid hz1
  have HZ2 := Lib.hid hz2
  have HR1 := Lib.hid hr1
  have HR2 := Lib.hid hr2
  have HR3 := Lib.hid hr3
  obtain ⟨-, a1, c1, rfl, -⟩ := hr1
  obtain ⟨-, a2, c2, rfl, -⟩ := hr2
  obtain ⟨-, a3, c3, rfl, -⟩ := hr3
  have hmk : ∀ w : World, (Instr.makeSlice 22 (.int .i64 0) (.int .i64 ((L1.length : Int) + 3))).run Try.prog w = .ok (.slice (some ⟨w.heap.size, 0, none⟩) 0 (L1.length + 3)) (w.alloc (.cells (List.replicate (L1.length + 3) (.int .u64 0)).toArray 24)) := fun w => mk_words (L1.length + 3) (by omega) w
  clear hi hz0 hz1 hz2
  go_enter Try.func3, Try.ntmps3
  go_wp2_with (first
    | (at_builtin; refine wpl_append rfl (.tmp 22) (.tmp 23) 22 rfl w.heap.size 24 i0 (.int .u64 0) 1 8 Try.underlying22 HI.out HZ0.out HZ1.out HZ2.out rfl (by decide) _ 0 [] rfl (World.ownsRow_made w _ (L1.length + 3) (Nat.le_refl _) (by unfold maxLen; omega) (by simp)) _ L1.length (L1.map u64) rfl (HR1.out.below ((Below.refl _ _).alloc (Nat.le_refl _) _)) (one_u64 _) (by unfold maxLen; omega) (by omega) (by simp) ?_; intro v' w1 hown hgrow; have HO1 : Hid (w1.ownsRow w.heap.size 24 1 v' L1.length (L1.map u64)) := (by have h := hown; rw [Nat.zero_add, List.nil_append] at h; exact h); have HB1 : Hid (Below w.heap.size w w1) := ((Below.refl _ _).alloc (Nat.le_refl _) _).grown hgrow (by simp) (fun k e => by cases e; exact Nat.le_refl _); clear hown hgrow)
    | (at_builtin; refine wpl_append rfl (.tmp 24) (.tmp 25) 22 rfl w.heap.size 24 i0 (.int .u64 0) 1 8 Try.underlying22 HI.out HZ0.out HZ1.out HZ2.out rfl (by decide) _ L1.length (L1.map u64) rfl (HO1.out.alloc _) _ 3 [.int .u64 77, .int .u64 78, .int .u64 79] rfl (RdC.of_owns (World.ownsRow_lit (e := 24) _ #[.int .u64 77, .int .u64 78, .int .u64 79] 3 (Nat.le_refl _) (by decide) rfl)) (by simp [Value.oneCell']) (by unfold maxLen; omega) (by omega) (by have := HB1.out.size; simp; omega) ?_; intro v'' w2 hown hgrow; obtain ⟨g, cap, rfl, hcap, -, hg1, hg2, -, -⟩ := own_some hown (by omega); have HO2 := Lib.hid hown; have HB2 : Hid (Below w.heap.size w w2) := (HB1.out.alloc HB1.out.size _).grown hgrow (by have := HB1.out.size; simp; omega) (fun k e => ((HO1.out.alloc (.cells #[.int .u64 77, .int .u64 78, .int .u64 79] 24 (0, 0))).lt k e).1); have HG1 := Lib.hid hg1; have HG2 := Lib.hid hg2; clear hown hgrow hg1 hg2)
    | (at_builtin; refine wpl_append rfl (.tmp 30) (.tmp 31) 22 rfl w2.heap.size 24 i0 (.int .u64 0) 1 8 Try.underlying22 HI.out HZ0.out HZ1.out HZ2.out rfl (by decide) _ 0 [] rfl (World.ownsRow_lit w2 #[] 0 (Nat.le_refl _) (by decide) rfl) _ L2.length (L2.map u64) rfl (HR2.out.below (HB2.out.alloc HB2.out.size _)) (one_u64 _) (by unfold maxLen; omega) (by omega) (by simp) ?_; intro v3 w3 hown hgrow; rw [Nat.zero_add, List.nil_append] at hown; obtain ⟨b2, cb2, rfl⟩ := owns_slice hown; have HO3 := Lib.hid hown; have HB3 : Hid (Below w2.heap.size w2 w3) := ((Below.refl _ _).alloc (Nat.le_refl _) _).grown hgrow (by simp) (fun k e => by cases e; exact Nat.le_refl _); clear hown hgrow)
    | fail)
  have HBW3 : Hid (Below w.heap.size w w3) := HB2.out.trans (HB3.out.mono HB2.out.size)
  have HO4 : Hid (w3.ownsRow w.heap.size 24 1 (.slice (some ⟨g, 0, none⟩) (L1.length + 3) cap) (L1.length + 3) (L1.map u64 ++ [.int .u64 77, .int .u64 78, .int .u64 79])) :=
    owns_fr HO2.out (Fr.of_below HB3.out) (fun k e => by cases e; exact Nat.not_le_of_lt HG2.out)
  have HA : Hid (RdC w3 1 (.slice (some ⟨g, 0, none⟩) L1.length cap) L1.length (L1.map u64)) := by
    have h := rd_take (RdC.of_owns HO4.out) L1.length (by omega)
    rw [Nat.mul_one, List.take_append_of_le_length (by simp), List.take_of_length_le (by simp)] at h
    exact h
  have HO3' := Lib.hid (RdC.of_owns HO3.out)
  clear HO1 HB1 HB2 HO2 hmk
  refine (new_any _ L1 w3 HA.out (by omega)).mono ?_
  rintro e w4 ⟨ps, rfl, hs4, hb4⟩
  have HS4 := Lib.hid hs4
  have HB4 := Lib.hid hb4
  clear hs4 hb4
  go_wp2_with fail
  refine (new_any _ L2 w4 (HO3'.out.below HB4.out) (by omega)).mono ?_
  rintro e w5 ⟨pt, rfl, hs5, hb5⟩
  have HS5 := Lib.hid hs5
  have HB5 := Lib.hid hb5
  clear hs5 hb5
  have HB35 : Hid (Below w3.heap.size w3 w5) := HB4.out.trans (HB5.out.mono HB4.out.size)
  have HBW5 : Hid (Below w.heap.size w w5) := HBW3.out.trans (HB35.out.mono HBW3.out.size)
  go_wp2_with fail
  refine (refNew_any _ L1 w5 (HR1.out.below HBW5.out) (by omega)).mono ?_
  rintro e w6 ⟨pm, rfl, hs6, hb6⟩
  have HS6 := Lib.hid hs6
  have HB6 := Lib.hid hb6
  clear hs6 hb6
  have HBW6 : Hid (Below w.heap.size w w6) := HBW5.out.trans (HB6.out.mono HBW5.out.size)
  go_wp2_with fail
  refine (refNew_any _ L2 w6 (HR2.out.below HBW6.out) (by omega)).mono ?_
  rintro e w7 ⟨pn, rfl, hs7, hb7⟩
  have HS7 := Lib.hid hs7
  have HB7 := Lib.hid hb7
  clear hs7 hb7
  have HDZ : Hid (Dz w w3.heap.size w4.heap.size w5.heap.size w6.heap.size w7.heap.size ps pt pm pn L1 L2 w7) := by
    have z1 := HB4.out.size
    have z2 := HB5.out.size
    have z3 := HB6.out.size
    have z4 := HB7.out.size
    have f5 := Fr.of_below HB5.out
    have f6 := Fr.of_below HB6.out
    have f7 := Fr.of_below HB7.out
    exact ⟨((HS4.out.fr f5 (fun k ⟨h1, h2⟩ h => by omega)).fr f6 (fun k ⟨h1, h2⟩ h => by omega)).fr f7 (fun k ⟨h1, h2⟩ h => by omega), (HS5.out.fr f6 (fun k ⟨h1, h2⟩ h => by omega)).fr f7 (fun k ⟨h1, h2⟩ h => by omega), HS6.out.fr f7 (fun k ⟨h1, h2⟩ h => by omega), HS7.out,
      HBW6.out.trans (HB7.out.mono HBW6.out.size), HBW3.out.size, z1, z2, z3, z4, Nat.le_refl _⟩
  have HB37 : Hid (Below w3.heap.size w3 w7) := HB35.out.trans ((HB6.out.trans (HB7.out.mono HB6.out.size)).mono HB35.out.size)
  have HOA : Hid (w7.ownsRow w.heap.size 24 1 (.slice (some ⟨g, 0, none⟩) (L1.length + 3) cap) (L1.length + 3) (L1.map u64 ++ [.int .u64 77, .int .u64 78, .int .u64 79])) :=
    owns_fr HO4.out (Fr.of_below HB37.out) (fun k hk => by have := (HO4.out.lt k hk).2; omega)
  have HOB : Hid (w7.ownsRow w2.heap.size 24 1 (.slice b2 L2.length cb2) L2.length (L2.map u64)) :=
    owns_fr HO3.out (Fr.of_below HB37.out) (fun k hk => by have := (HO3.out.lt k hk).2; omega)
  have HG3 : Hid (g < w3.heap.size) := (HO4.out.lt g rfl).2
  have HB3g : Hid (∀ k, (Value.slice b2 L2.length cb2).ownBlock = some k → k < w3.heap.size) := fun k hk => (HO3.out.lt k hk).2
  clear HS4 HS5 HS6 HS7 HB4 HB5 HB6 HB7 HB35 HB37 HBW5 HBW6 HO4 HA HO3' HO3 HB3
  obtain ⟨z0, hz0⟩ : ∃ z, w3.heap.size = z := ⟨_, rfl⟩
  obtain ⟨z1, hz1⟩ : ∃ z, w4.heap.size = z := ⟨_, rfl⟩
  obtain ⟨z2, hz2⟩ : ∃ z, w5.heap.size = z := ⟨_, rfl⟩
  obtain ⟨z3, hz3⟩ : ∃ z, w6.heap.size = z := ⟨_, rfl⟩
  obtain ⟨z4, hz4⟩ : ∃ z, w7.heap.size = z := ⟨_, rfl⟩
  rw [hz0, hz1, hz2, hz3, hz4] at HDZ
  rw [hz0] at HG3 HB3g
  clear hz0 hz1 hz2 hz3 hz4 HBW3
  have hbn : ∀ W, Calls Try.prog 17 #[.pointer none, .int .u64 5] W fun e w' => e = .returned (.int .u64 0) ∧ W = w' := fun W => below_nil W 5
  have HBN := Lib.hid hbn
  clear hbn
  go_wp2_with fail
  refine (next_nil _).mono ?_
  rintro e w' ⟨rfl, rfl⟩
  go_wp2_with fail
  refine (HBN.out _).mono ?_
  rintro e w' ⟨rfl, rfl⟩
  go_wp2_with fail
  refine (left_nil _).mono ?_
  rintro e w' ⟨rfl, rfl⟩
  go_wp2_with fail
  go_loopw [14, 64] (fun _ i wr => ∃ (k : Nat) (X : List Value), i = .int .i64 k ∧ k ≤ L1.length ∧ Hid (wr.ownsRow w.heap.size 24 1 (.slice (some ⟨g, 0, none⟩) (L1.length + 3) cap) (L1.length + 3) X) ∧ Hid (∀ j, k ≤ j → X[j]? = (L1.map u64 ++ [.int .u64 77, .int .u64 78, .int .u64 79])[j]?) ∧
      Hid (wr.ownsRow w2.heap.size 24 1 (.slice b2 L2.length cb2) L2.length (L2.map u64)) ∧ Hid (Dz w z0 z1 z2 z3 z4 ps pt pm pn L1 L2 wr)) (fun _ i _ => L1.length - (intOf i).toNat)
  case atStart => exact ⟨0, _, rfl, by omega, HOA.out, (show ∀ j, 0 ≤ j → _ = _ from fun _ _ => rfl), HOB.out, HDZ.out⟩
  case round =>
    obtain ⟨k, X, rfl, hk, HX, HXE, HOB', HDZ'⟩ := hrel
    obtain ⟨wo, rfl⟩ : ∃ x, x = wr := ⟨_, rfl⟩
    clear HOA HOB HDZ
    by_cases hlt : k < L1.length
    · obtain ⟨x, hx⟩ : ∃ x, L1[k] = x := ⟨_, rfl⟩
      have hca : wo.cell? ⟨g, k, none⟩ = some (.int .u64 (wd x)) := by
        obtain ⟨g', cap', he, -, -, -, -, -, hcells⟩ := own_some HX.out (by omega)
        cases he
        refine hcells k _ ?_
        rw [HXE.out k (Nat.le_refl _), List.getElem?_append_left (by rw [List.length_map]; exact hlt), List.getElem?_map, List.getElem?_eq_getElem hlt, hx]
        rfl
      have hfa : wo.frozen? ⟨g, k, none⟩ = false := by
        obtain ⟨g', cap', he, -, -, -, -, hfr, -⟩ := own_some HX.out (by omega)
        cases he
        exact hfr k
      obtain ⟨g1, o1, rfl, hcells⟩ := (HR1.out.below HDZ'.out.bel).at (by rw [List.length_map]; omega)
      have hco := hcells k (.int .u64 (wd x)) (by rw [List.getElem?_map, List.getElem?_eq_getElem hlt, hx]; rfl)
      have hb0 : (0 : Int) ≤ (k : Int) := by omega
      have hb1 : (k : Int) < (L1.length : Int) := by omega
      have gx : (wd x != wd x) = false := by simp
      clear hcells hx
      go_wp2
      go_quiet (fail)
      go_wp2
      have hfq := Fr.drewN (fun _ => False) wo nq
      have hfs := Fr.setCell (wo.drewN nq) ⟨g, k, none⟩ (.int .u64 99)
      have HX' : Hid (((wo.drewN nq).setCell ⟨g, k, none⟩ (.int .u64 99)).ownsRow w.heap.size 24 1 (.slice (some ⟨g, 0, none⟩) (L1.length + 3) cap) (L1.length + 3) (X.set k (.int .u64 99))) :=
        own_put (owns_fr HX.out hfq (fun _ _ h => h)) k (by omega) _
      have HXE' : Hid (∀ j, k + 1 ≤ j → (X.set k (.int .u64 99))[j]? = (L1.map u64 ++ [.int .u64 77, .int .u64 78, .int .u64 79])[j]?) := by
        intro j hj
        rw [List.getElem?_set_ne (by omega)]
        exact HXE.out j (by omega)
      have HOB2 : Hid (((wo.drewN nq).setCell ⟨g, k, none⟩ (.int .u64 99)).ownsRow w2.heap.size 24 1 (.slice b2 L2.length cb2) L2.length (L2.map u64)) :=
        owns_fr (owns_fr HOB'.out hfq (fun _ _ h => h)) hfs (fun i hi e => by have h1 := (HOB'.out.lt i hi).1; have h2 := HG2.out; dsimp only at e; omega)
      have HDZ2 : Hid (Dz w z0 z1 z2 z3 z4 ps pt pm pn L1 L2 ((wo.drewN nq).setCell ⟨g, k, none⟩ (.int .u64 99))) :=
        (HDZ'.out.fr hfq (fun _ h => h.elim)).fr hfs (fun i e => by have h1 := HG1.out; have h2 := HG3.out; dsimp only at e; omega)
      clear hfq hfs
      go_roundw
      case rel => exact ⟨k + 1, _, by go_num, by omega, HX', HXE', HOB2, HDZ2⟩
      case measure => simp [intOf]; omega
    · obtain rfl : k = L1.length := by omega
      obtain ⟨c77, c78, c79⟩ : wo.cell? ⟨g, L1.length, none⟩ = some (.int .u64 77) ∧ wo.cell? ⟨g, L1.length + 1, none⟩ = some (.int .u64 78) ∧ wo.cell? ⟨g, L1.length + 2, none⟩ = some (.int .u64 79) := by
        obtain ⟨g', cap', he, -, -, -, -, -, hcells⟩ := own_some HX.out (by omega)
        cases he
        refine ⟨hcells _ _ ?_, hcells _ _ ?_, hcells _ _ ?_⟩ <;> (rw [HXE.out _ (by omega), List.getElem?_append_right (by rw [List.length_map]; omega), List.length_map]; simp)
      have q1 : (L1.length : Int) + 3 ≤ (cap : Int) := by omega
      have q2 : (L1.length : Int) < (L1.length : Int) + 3 := by omega
      have q3 : (L1.length : Int) + 1 < (L1.length : Int) + 3 := by omega
      have q4 : (L1.length : Int) + 2 < (L1.length : Int) + 3 := by omega
      go_wp2_with fail
      go_loopw [16, 111] (fun _ i wr => ∃ (k : Nat) (X : List Value), i = .int .i64 k ∧ k ≤ L2.length ∧ 
        Hid (wr.ownsRow w2.heap.size 24 1 (.slice b2 L2.length cb2) L2.length X) ∧ Hid (Dz w z0 z1 z2 z3 z4 ps pt pm pn L1 L2 wr)) (fun _ i _ => L2.length - (intOf i).toNat)
      case atStart => exact ⟨0, _, rfl, by omega, HOB'.out, HDZ'.out⟩
      case round =>
        obtain ⟨k, Y, rfl, hk, HY, HDZ2⟩ := hrel
        obtain ⟨wp, rfl⟩ : ∃ x, x = wr := ⟨_, rfl⟩
        clear HX HXE HOB' HDZ' c77 c78 c79
        by_cases hlt : k < L2.length
        · obtain ⟨g5, cap5, he, -, -, hg5, -, hfr, hcells⟩ := own_some HY.out (by omega)
          cases he
          have hyl : Y.length = L2.length := by have := HY.out.1; rwa [Nat.mul_one] at this
          have hc := hcells k Y[k] (List.getElem?_eq_getElem (by omega))
          have hf5 := hfr k
          have hb0 : (0 : Int) ≤ (k : Int) := by omega
          have hb1 : (k : Int) < (L2.length : Int) := by omega
          have HG5 := Lib.hid hg5
          obtain ⟨y, hy⟩ : ∃ y, Y[k] = y := ⟨_, rfl⟩
          rw [hy] at hc
          have HYL := Lib.hid hyl
          clear hcells hfr hg5 hy hyl
          go_wp2
          have hfs := Fr.setCell wp ⟨g5, k, none⟩ (.int .u64 98)
          have HY' : Hid ((wp.setCell ⟨g5, k, none⟩ (.int .u64 98)).ownsRow w2.heap.size 24 1 (.slice (some ⟨g5, 0, none⟩) L2.length cb2) L2.length (Y.set k (.int .u64 98))) := own_put HY.out k hlt _
          have HDZ3 : Hid (Dz w z0 z1 z2 z3 z4 ps pt pm pn L1 L2 (wp.setCell ⟨g5, k, none⟩ (.int .u64 98))) :=
            HDZ2.out.fr hfs (fun i e => by have h1 := HG5.out; have h2 := HG1.out; have h3 := HG2.out; have h4 := HB3g.out g5 rfl; dsimp only at e; omega)
          clear hfs
          go_roundw
          case rel => exact ⟨k + 1, _, by go_num, by omega, HY', HDZ3⟩
          case measure => simp [intOf]; omega
        · obtain rfl : k = L2.length := by omega
          go_wp2_with fail
          go_loopw [18, 120] (fun _ i wr => ∃ (k : Nat) (A B : List UInt64), i = .int .i64 k ∧ k ≤ l.length ∧ Hid (Dz w z0 z1 z2 z3 z4 ps pt pm pn A B wr)) (fun _ i _ => l.length - (intOf i).toNat)
          case atStart => exact ⟨0, _, _, rfl, by omega, HDZ2.out⟩
          case round =>
            obtain ⟨k, A, B, rfl, hk, HZ⟩ := hrel
            obtain ⟨wq, rfl⟩ : ∃ x, x = wr := ⟨_, rfl⟩
            clear HY HDZ2
            by_cases hlt : k < l.length
            · obtain ⟨g6, o6, rfl, d0, d1, d2⟩ := qn_at (HR3.out.below HZ.out.bel) k hlt
              obtain ⟨o, ho⟩ : ∃ o, l[k] = o := ⟨_, rfl⟩
              rw [ho] at d0 d1 d2
              clear ho
              have hb0 : (0 : Int) ≤ (k : Int) := by omega
              have hb1 : (k : Int) < (l.length : Int) := by omega
              obtain ⟨W0, hW0⟩ : ∃ W, wq.alloc (.cells #[.int .i64 o.who, .int .i64 o.do_, .int .u64 (wd o.n)] 33) = W := ⟨_, rfl⟩
              have hf0 : Fr (fun _ => False) wq W0 := by rw [← hW0]; exact Fr.alloc _ _ _
              have hbk : W0.heap[wq.heap.size]? = some (.cells #[.int .i64 o.who, .int .i64 o.do_, .int .u64 (wd o.n)] 33 (0, 0)) := by rw [← hW0]; exact alloc_at _ _
              have HZ0 := Lib.hid (HZ.out.fr hf0 (fun _ h => h.elim))
              have hsz : z4 ≤ wq.heap.size := HZ.out.hi
              have HSZ := Lib.hid hsz
              have HBK := Lib.hid hbk
              have HW0 := Lib.hid hW0
              clear hf0 hbk hW0 hsz
              by_cases hw : o.who = 0
              · have g0 : (o.who == 0) = true := beq_iff_eq.2 hw
                have g1 : (o.who != 0) = false := by simp [bne, g0]
                clear hw
                go_wp2_with fail
                rw [HW0.out]
                refine (asks_any W0 ps pm A (fun k => z0 ≤ k ∧ k < z1) (fun k => z2 ≤ k ∧ k < z3) o HZ0.out.s HZ0.out.ms (fun k ⟨h1, h2⟩ ⟨h3, h4⟩ => by have := HZ0.out.i2; omega)).mono ?_
                rintro e w8 hq
                obtain rfl := hq.1
                have HZ1 := Lib.hid (HZ0.out.one hq)
                have hc0 : w8.cell? ⟨wq.heap.size, 0, none⟩ = some (.int .i64 o.who) := by
                  refine hq.2.2.2.cell (by rw [cell_of_blk HBK.out]; rfl) (fun e => ?_)
                  have p1 : z0 ≤ ps ∧ ps < z1 := HZ0.out.s.in_
                  have p2 : z2 ≤ pm ∧ pm < z3 := HZ0.out.ms.in_
                  have i2 := HZ0.out.i2
                  have i3 := HZ0.out.i3
                  have i4 := HZ0.out.i4
                  have hh := HSZ.out
                  dsimp only at e
                  omega
                clear hq
                go_wp2_with fail
                go_roundw
                case rel => exact ⟨k + 1, _, _, by go_num, by omega, HZ1⟩
                case measure => simp [intOf]; omega
              · have g0 : (o.who == 0) = false := beq_eq_false_iff_ne.2 hw
                have g1 : (o.who != 0) = true := by simp [bne, g0]
                clear hw
                go_wp2_with fail
                rw [HW0.out]
                refine (asks_any W0 pt pn B (fun k => z1 ≤ k ∧ k < z2) (fun k => z3 ≤ k ∧ k < z4) o HZ0.out.t HZ0.out.ns (fun k ⟨h1, h2⟩ ⟨h3, h4⟩ => by have := HZ0.out.i3; omega)).mono ?_
                rintro e w8 hq
                obtain rfl := hq.1
                have HZ1 := Lib.hid (HZ0.out.two hq)
                clear hq
                go_wp2_with fail
                go_roundw
                case rel => exact ⟨k + 1, _, _, by go_num, by omega, HZ1⟩
                case measure => simp [intOf]; omega
            · obtain rfl : k = l.length := by omega
              have hle : A.length ≤ A.length := Nat.le_refl _
              clear hle
              go_wp2_with fail
              refine (left_any wq ps A _ HZ.out.s).mono ?_
              rintro e w' ⟨rfl, rfl⟩
              go_wp2_with fail
              refine (refLeft_any wq pm A _ HZ.out.ms).mono ?_
              rintro e w8 ⟨rfl, m8, rfl⟩
              have HZ8 := Lib.hid (HZ.out.fr (Fr.drewN (fun _ => False) wq m8) (fun _ h => h.elim))
              go_wp2_with fail
              refine (left_any _ pt B _ HZ8.out.t).mono ?_
              rintro e w' ⟨rfl, rfl⟩
              go_wp2_with fail
              refine (refLeft_any _ pn B _ HZ8.out.ns).mono ?_
              rintro e w9 ⟨rfl, m9, rfl⟩
              have HZ9 := Lib.hid (HZ8.out.fr (Fr.drewN (fun _ => False) _ m9) (fun _ h => h.elim))
              go_wp2
              go_ret
              exact ⟨by simp, by rw [← drewN_drewN]; exact HZ9.out.bel⟩
set_option maxRecDepth 100000 in
theorem drawTakes_lifted (os : Os) (started : os.Started) (H : Type) (enc : TypeId × Value → H) :
    ReturnsInHanded {} Try.checked os 3 .any (Rows.drawTakesSpec.pre6 enc Try.prog Try.f3 Rows.drawTakesRow.domain false) (Rows.drawTakesSpec.post enc Try.prog Try.f3 false true false false) := by
  refine returnsInHanded_of_change_sized (C := Try.checked) own started (by kernel_rfl) Try.func3
    (ChangeSpec.witness6 (enc := enc) (C := Try.checked) false ⟨#[], #[.slice none 0 0, .slice none 0 0, .slice none 0 0], []⟩ 8 (by kernel_rfl) (by kernel_rfl) (by kernel_rfl) (by kernel_rfl)) ?_
  intro W base args ds gs before hval0 hW hcnd hsz0 _
  have hval : ∀ (j : Nat) t v, Try.f3.params[j]? = some t → args[j]? = some v → Value.okWide Try.prog W .any base t v := hval0
  have hW' := hW
  obtain ⟨p, q, hA0, hV, rfl, hfz, hnd⟩ := hW
  have hA : DataW.TrodAll enc Try.prog W 0 (fun _ => true) true Try.f3.params.toList args.toList ds p := hA0
  rw [Try.params3] at hA hval
  obtain ⟨v0, vs0, d0, ds0, p0, q0, hargs, rfl, rfl, h0, r0⟩ := trodAll_cons hA
  obtain ⟨v1, vs1, d1, ds1, p1, q1, rfl, rfl, rfl, h1, r1⟩ := trodAll_cons r0
  obtain ⟨v2, vs2, d2, ds2, p2, q2, rfl, rfl, rfl, h2, r2⟩ := trodAll_cons r1
  obtain ⟨rfl, rfl, rfl⟩ := trodAll_nil r2
  obtain rfl : args = #[v0, v1, v2] := by cases args; simp_all
  obtain ⟨rfl, rfl⟩ := trodVars_none hV
  have hsz : (DataW.weightsEach Try.prog [22, 22, 23] [d0, d1, d2]).all (fun x => decide (x ≤ reachBytes)) = true := by
    have h := hsz0
    simp only [List.append_nil] at h
    have e : (Try.f3.params.toList ++ DataSpec.varTypes Try.checked.prog Rows.drawTakesSpec.plain) = [22, 22, 23] := by kernel_rfl
    rw [e] at h; exact h
  clear hsz0
  obtain ⟨hw0, hsz0⟩ := weights_cons hsz
  obtain ⟨l0, hr0, hb0⟩ := open_list (fun u => [u64 u]) (fun _ => rfl) Try.underlying22 (by kernel_rfl) (word_cells Try.underlying24) (hval 0 22 v0 rfl rfl) h0
  have hby0 : l0.length * 8 ≤ reachBytes := by
    have e : Try.prog.bytesOf 24 = 8 := by kernel_rfl
    rw [← e]; exact hb0 _ hw0
  obtain ⟨hw1, hsz1⟩ := weights_cons hsz0
  obtain ⟨l1, hr1, hb1⟩ := open_list (fun u => [u64 u]) (fun _ => rfl) Try.underlying22 (by kernel_rfl) (word_cells Try.underlying24) (hval 1 22 v1 rfl rfl) h1
  have hby1 : l1.length * 8 ≤ reachBytes := by
    have e : Try.prog.bytesOf 24 = 8 := by kernel_rfl
    rw [← e]; exact hb1 _ hw1
  obtain ⟨hw2, hsz2⟩ := weights_cons hsz1
  obtain ⟨l2, hr2, hb2⟩ := open_list qn qn_len Try.underlying23 (by kernel_rfl) qn_read (hval 2 23 v2 rfl rfl) h2
  have hby2 : l2.length * 24 ≤ reachBytes := by
    have e : Try.prog.bytesOf 33 = 24 := by kernel_rfl
    rw [← e]; exact hb2 _ hw2
  clear hA0 hval0
  refine (drawTakes_walk W v0 l0 hr0 hby0 v1 l1 hr1 hby1 v2 l2 hr2 hby2).mono fun e W' ⟨he, bel⟩ => ?_
  subst he
  exact ⟨_, rfl, law_post laidOut Try.underlying4 (by kernel_rfl) rfl (by kernel_rfl) hW' rfl bel⟩

theorem drawTakes_holds : Rows.DrawTakesSaid :=
  OpenClaim.holds_of_wide 3 Try.f3 rfl rfl rfl rfl rfl rfl rfl ⟨rfl, rfl, rfl, rfl, rfl⟩ rfl rfl rfl rfl rfl (by kernel_rfl) Try.func3 (by kernel_rfl)
    (of_decide_eq_true (by kernel_rfl)) (by unfold Func.isWrapper; rw [if_neg (of_decide_eq_false (by kernel_rfl))]; exact ⟨rfl, rfl⟩)
    (fun os started H enc _ => drawTakes_lifted os started H enc)
end Go.Proofs.Ytpcjogmikgfgdaa

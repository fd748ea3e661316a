/- The walk of FlockPlays. No condition. -/
import Derived.Test.YtgomilodeaafdaaCf
import Derived.Test.YtgomilodeaafdaaBk
namespace Go.Proofs.Ytgomilodeaafdaa
open Go.ChangeShapes Go.WideShapes Go.ChangeAt Go.RowKit Du
theorem set3 {w : World} {g : Nat} {t : TypeId} {a b c x y z : Value} (h : w.heap[g]? = some (.cells #[a, b, c] t (0, 0))) : (((w.setCell ⟨g, 0, none⟩ x).setCell ⟨g, 1, none⟩ y).setCell ⟨g, 2, none⟩ z).heap[g]? = some (.cells #[x, y, z] t (0, 0)) :=
  heap_setCell_same _ g 2 _ _ _ (heap_setCell_same _ g 1 _ _ _ (heap_setCell_same _ g 0 _ _ _ h))
theorem set3_fr {w : World} {g : Nat} {x y z : Value} : Fr (fun i => i = g) w (((w.setCell ⟨g, 0, none⟩ x).setCell ⟨g, 1, none⟩ y).setCell ⟨g, 2, none⟩ z) :=
  (((Fr.refl (fun i => i = g) w).thenSet _ _ (fun _ => rfl)).thenSet _ _ (fun _ => rfl)).thenSet _ _ (fun _ => rfl)
set_option maxRecDepth 100000 in
set_option maxHeartbeats 8000000 in
theorem flockPlays_walk (w : World) (s0 s1 : UInt64) (v : Value) (l : List So10B) (hr : RdC w 6 v l.length (l.flatMap so10)) (hsz : ∀ x ∈ l, x.1.member.size ≤ 140737488355328) :
    Calls Try.prog 7 #[.agg #[.int .u64 (wd s0), .int .u64 (wd s1)], v] w fun e w' => e = .returned (.bool true) ∧ Below w.heap.size w w' := by
  have hll : l.length ≤ 9223372036854775807 := by have := hr.len; unfold maxLen at this; exact this
  have HR := Lib.hid hr
  have HSZ := Lib.hid hsz
  obtain ⟨-, a1, c1, rfl, -⟩ := hr
  obtain ⟨W0, hW0⟩ : ∃ W, w.alloc (.cells #[.int .u64 (wd s0), .int .u64 (wd s1)] 65) = W := ⟨_, rfl⟩
  have hb : W0.heap[w.heap.size]? = some (.cells #[.int .u64 (wd s0), .int .u64 (wd s1)] 65 (0, 0)) := by rw [← hW0]; exact alloc_new _ _
  have HF0 : Hid (Fr (fun _ => False) w W0) := by rw [← hW0]; exact Fr.alloc _ _ _
  have HS : Hid (∀ V, Fr (fun _ => False) W0 V → V.cell? ⟨w.heap.size, 0, none⟩ = some (.int .u64 (wd s0)) ∧ V.cell? ⟨w.heap.size, 1, none⟩ = some (.int .u64 (wd s1))) := fun V hf => ⟨hf.cell (cell_of_blk hb 0) (fun h => h), hf.cell (cell_of_blk hb 1) (fun h => h)⟩
  have HSZ0 : Hid (w.heap.size < W0.heap.size) := lt_of_blk hb
  have HN0 : Hid (∀ V, Calls Try.prog 34 #[.int .u64 0] V fun e w' => ∃ r d, e = .returned (.pointer (some ⟨r, 0, none⟩)) ∧ FloF w' V.heap.size (fun k => V.heap.size ≤ k ∧ k < w'.heap.size) r d ⟨0, 0, [], 0, [], 0, 0⟩ [] ∧ Below V.heap.size V w') := fun V => floNew_any V 0
  have HM0 : Hid (∀ V, Calls Try.prog 35 #[.int .u64 0] V fun e w' => ∃ mr p Fd X, e = .returned (.pointer (some ⟨mr, 0, none⟩)) ∧ RefFx w' V.heap.size mr (fun k => V.heap.size ≤ k ∧ k < w'.heap.size) ⟨0, [], [], 0⟩ [] [] p Fd X (.slice none 0 0) ∧ Fr (fun _ => False) V w') := fun V => rfNew_any 0 V
  clear hsz hb
  go_enter Try.func7, Try.ntmps7
  go_upto_region 1 with (fail)
  try rw [hW0]
  clear hW0
  have HX : Hid (Fr (fun _ => False) W0 W0) := Fr.refl _ _
  go_cut [5] from 14 to 21 (fun u5 wc => ∃ (g r0 r1 r2 : Nat) (F : Nat → Nat → Prop), u5 = .pointer (some ⟨g, 0, none⟩) ∧ Hid (Fs1 W0 wc (pick3 s0 s1 0) g (pick3 r0 r1 r2) F))
  case first =>
    refine wp_region_held_drew (S := fun V => V.cell? ⟨w.heap.size, 0, none⟩ = some (.int .u64 (wd s0)) ∧ V.cell? ⟨w.heap.size, 1, none⟩ = some (.int .u64 (wd s1))) (by kernel_rfl) ?_ (fun hHeld => ?_)
    · exact HS.out _ (HX.out.trans (Fr.drew _ _) (fun _ h _ => h))
    refine takeH (i := 0) (d := 14) (v := ?va0) rfl (by kernel_rfl) (by kernel_rfl) (by kernel_rfl) (by kernel_rfl) (fun _ _ _ h => h) (Or.inl ⟨by kernel_rfl, ?hya0⟩) hHeld ?resta0
    case hya0 =>
      intro w hSw
      try dsimp only at hSw
      first | (go_simp; done) | (go_simp; with_reducible rfl)
    try simp only [Act.put, List.setIfInBounds_toArray, List.set_cons_zero, List.set_cons_succ]
    refine takeH (i := 1) (d := 15) (v := ?va1) rfl (by kernel_rfl) (by kernel_rfl) (by kernel_rfl) (by kernel_rfl) (fun _ _ _ h => h) (Or.inl ⟨by kernel_rfl, ?hya1⟩) hHeld ?resta1
    case hya1 =>
      intro w hSw
      try dsimp only at hSw
      first | (go_simp; done) | (go_simp; with_reducible rfl)
    try simp only [Act.put, List.setIfInBounds_toArray, List.set_cons_zero, List.set_cons_succ]
    refine takeH (i := 3) (d := 17) (v := ?va2) rfl (by kernel_rfl) (by kernel_rfl) (by kernel_rfl) (by kernel_rfl) (fun _ _ _ h => h) (Or.inl ⟨by kernel_rfl, ?hya2⟩) hHeld ?resta2
    case hya2 =>
      intro w hSw
      try dsimp only at hSw
      first | (go_simp; done) | (go_simp; with_reducible rfl)
    try simp only [Act.put, List.setIfInBounds_toArray, List.set_cons_zero, List.set_cons_succ]
    refine takeH (i := 4) (d := 18) (v := ?va3) rfl (by kernel_rfl) (by kernel_rfl) (by kernel_rfl) (by kernel_rfl) (fun _ _ _ h => h) (Or.inl ⟨by kernel_rfl, ?hya3⟩) hHeld ?resta3
    case hya3 =>
      intro w hSw
      try dsimp only at hSw
      first | (go_simp; done) | (go_simp; with_reducible rfl)
    try simp only [Act.put, List.setIfInBounds_toArray, List.set_cons_zero, List.set_cons_succ]
    refine wpAnyH_ready (rs := [2, 8]) (by kernel_rfl) (by simp) ?_
    refine AllReadyH.cons rfl (fun K hK => ?_) (AllReadyH.cons rfl (fun K hK => ?_) AllReadyH.nil)
    · have HH := Lib.hid hHeld
      clear hHeld
      go_simp
      refine (floNew_any _ s0).mono ?_
      rintro e x1 ⟨r0, d0, rfl, hf, hb⟩
      have HQ1 : Hid (Fr (fun _ => False) _ x1) := fr_bel0 hb
      have HR0 := Lib.hid hf
      have HF1 := Lib.hid ((Fr.drew (fun _ => False) W0).trans HQ1.out (fun _ h _ => h))
      clear hf hb
      refine hK.out _ _ ?_ (fun hNew => ?_)
      · exact HS.out _ (HX.out.trans HF1.out (fun _ h _ => h))
      clear hK K HH
      have hHeld := hNew
      clear hNew
      try simp only [Act.put, List.setIfInBounds_toArray, List.set_cons_zero, List.set_cons_succ]
      refine wpAnyH_ready (rs := [5, 8]) (by kernel_rfl) (by simp) ?_
      refine AllReadyH.cons rfl (fun K hK => ?_) (AllReadyH.cons rfl (fun K hK => ?_) AllReadyH.nil)
      · have HH := Lib.hid hHeld
        clear hHeld
        go_simp
        refine (floNew_any _ s1).mono ?_
        rintro e x2 ⟨r1, d1, rfl, hf, hb⟩
        have HQ2 : Hid (Fr (fun _ => False) _ x2) := fr_bel0 hb
        have HR1 := Lib.hid hf
        have HF2 := Lib.hid (HF1.out.trans HQ2.out (fun _ h _ => h))
        clear hf hb
        refine hK.out _ _ ?_ (fun hNew => ?_)
        · exact HS.out _ (HX.out.trans HF2.out (fun _ h _ => h))
        clear hK K HH
        have hHeld := hNew
        clear hNew
        try simp only [Act.put, List.setIfInBounds_toArray, List.set_cons_zero, List.set_cons_succ]
        refine wpAnyH_ready (rs := [6, 8]) (by kernel_rfl) (by simp) ?_
        refine AllReadyH.cons rfl (fun K hK => ?_) (AllReadyH.cons rfl (fun K hK => ?_) AllReadyH.nil)
        · have HH := Lib.hid hHeld
          clear hHeld
          go_simp
          refine (HN0.out _).mono ?_
          rintro e x3 ⟨r2, d2, rfl, hf, hb⟩
          have HQ3 : Hid (Fr (fun _ => False) _ x3) := fr_bel0 hb
          have HR2 := Lib.hid hf
          have HF3 := Lib.hid (HF2.out.trans HQ3.out (fun _ h _ => h))
          clear hf hb
          refine hK.out _ _ ?_ (fun hNew => ?_)
          · exact HS.out _ (HX.out.trans HF3.out (fun _ h _ => h))
          clear hK K HH
          have hHeld := hNew
          clear hNew
          try simp only [Act.put, List.setIfInBounds_toArray, List.set_cons_zero, List.set_cons_succ]
          refine takeH (i := 7) (d := 21) (v := ?va4) rfl (by kernel_rfl) (by kernel_rfl) (by kernel_rfl) (by kernel_rfl) (fun _ _ _ h => h) (Or.inl ⟨by kernel_rfl, ?hya4⟩) hHeld ?resta4
          case hya4 =>
            intro w hSw
            try dsimp only at hSw
            first | (go_simp; done) | (go_simp; with_reducible rfl)
          try simp only [Act.put, List.setIfInBounds_toArray, List.set_cons_zero, List.set_cons_succ]
          refine wpAnyH_ready (rs := [8]) (by kernel_rfl) (by simp) ?_
          refine AllReadyH.cons rfl (fun K hK => ?_) AllReadyH.nil
          have HH := Lib.hid hHeld
          clear hHeld
          go_simp
          obtain ⟨x4, hx4⟩ : ∃ x, World.alloc x3 (.cells #[.pointer none, .pointer none, .pointer none] 69) = x := ⟨_, rfl⟩
          have HQ4 : Hid (Fr (fun _ => False) x3 x4) := by rw [← hx4]; exact Fr.alloc _ _ _
          have HB : Hid (x4.heap[x3.heap.size]? = some (.cells #[.pointer none, .pointer none, .pointer none] 69 (0, 0))) := by rw [← hx4]; exact alloc_new x3 (.cells #[.pointer none, .pointer none, .pointer none] 69)
          have HF4 := Lib.hid (HF3.out.trans HQ4.out (fun _ h _ => h))
          try rw [hx4]
          clear hx4
          refine hK.out _ _ ?_ (fun hNew => ?_)
          · exact HS.out _ (HX.out.trans HF4.out (fun _ h _ => h))
          clear hK K HH
          have hHeld := hNew
          clear hNew
          try simp only [Act.put, List.setIfInBounds_toArray, List.set_cons_zero, List.set_cons_succ]
          obtain ⟨g, hg⟩ : ∃ g, x3.heap.size = g := ⟨_, rfl⟩
          have HG := Lib.hid hg
          have hb4 := HB.out
          rw [hg] at hb4
          rw [hg]
          clear hg
          have cz0 : x4.cell? ⟨g, 0, none⟩ = some (.pointer none) := cell_of_blk hb4 0
          have fz0 : x4.frozen? ⟨g, 0, none⟩ = false := free_of_blk hb4 0
          have cz1 : x4.cell? ⟨g, 1, none⟩ = some (.pointer none) := cell_of_blk hb4 1
          have fz1 : x4.frozen? ⟨g, 1, none⟩ = false := free_of_blk hb4 1
          have cz2 : x4.cell? ⟨g, 2, none⟩ = some (.pointer none) := cell_of_blk hb4 2
          have fz2 : x4.frozen? ⟨g, 2, none⟩ = false := free_of_blk hb4 2
          have HBK := Lib.hid hb4
          have HZB := Lib.hid (lt_of_blk hb4)
          clear hb4
          refine wpAnyH_ready (rs := [9]) (by kernel_rfl) (by simp) ?_
          refine AllReadyH.cons rfl (fun K hK => ?_) AllReadyH.nil
          have HH := Lib.hid hHeld
          clear hHeld
          go_simp
          obtain ⟨y, hy⟩ : ∃ y, ((x4.setCell ⟨g, 0, none⟩ (.pointer (some ⟨r0, 0, none⟩))).setCell ⟨g, 1, none⟩ (.pointer (some ⟨r1, 0, none⟩))).setCell ⟨g, 2, none⟩ (.pointer (some ⟨r2, 0, none⟩)) = y := ⟨_, rfl⟩
          have HY : Hid (y.heap[g]? = some (.cells #[.pointer (some ⟨r0, 0, none⟩), .pointer (some ⟨r1, 0, none⟩), .pointer (some ⟨r2, 0, none⟩)] 69 (0, 0))) := by rw [← hy]; exact set3 HBK.out
          have HQY : Hid (Fr (fun i => i = g) x4 y) := by rw [← hy]; exact set3_fr
          have HGB : Hid (W0.heap.size ≤ g) := by have h1 := HG.out; have h2 := HF3.out.size; show _ ≤ _; omega
          have HFY : Hid (Fr (fun _ => False) W0 y) := HF4.out.wide HQY.out (fun i hi => .inr (by rw [hi]; exact HGB.out))
          try rw [hy]
          clear hy cz0 cz1 cz2 fz0 fz1 fz2
          refine hK.out _ _ ?_ (fun hNew => ?_)
          · exact HS.out _ (HX.out.trans HFY.out (fun _ h _ => h))
          clear hK K HH
          have hHeld := hNew
          clear hNew
          try simp only [Act.put, List.setIfInBounds_toArray, List.set_cons_zero, List.set_cons_succ]
          refine wpAnyH_done (by kernel_rfl) ?_ _
          go_wp2_with fail
          go_meet
          case rel =>
            have z1 : W0.heap.size ≤ x1.heap.size := HQ1.out.size
            have z2 := HQ2.out.size
            have z3 := HQ3.out.size
            have z4 := HQ4.out.size
            have zy := HQY.out.size
            have hg := HG.out
            have hzb := HZB.out
            have f0 : FloF y W0.heap.size (iv W0.heap.size x1.heap.size) r0 d0 _ _ := ((((HR0.out.quiet HQ2.out).quiet HQ3.out).quiet HQ4.out).other HQY.out (fun i hi e => by have h1 : iv W0.heap.size x1.heap.size i := hi; have := h1.1; have := h1.2; omega)).base (by show W0.heap.size ≤ W0.heap.size; omega)
            have f1 : FloF y W0.heap.size (iv x1.heap.size x2.heap.size) r1 d1 _ _ := (((HR1.out.quiet HQ3.out).quiet HQ4.out).other HQY.out (fun i hi e => by have h1 : iv x1.heap.size x2.heap.size i := hi; have := h1.1; have := h1.2; omega)).base (by show W0.heap.size ≤ x1.heap.size; omega)
            have f2 : FloF y W0.heap.size (iv x2.heap.size x3.heap.size) r2 d2 _ _ := ((HR2.out.quiet HQ4.out).other HQY.out (fun i hi e => by have h1 : iv x2.heap.size x3.heap.size i := hi; have := h1.1; have := h1.2; omega)).base (by show W0.heap.size ≤ x2.heap.size; omega)
            refine ⟨g, r0, r1, r2, pick3 (iv W0.heap.size x1.heap.size) (iv x1.heap.size x2.heap.size) (iv x2.heap.size x3.heap.size), rfl, ⟨fun k hk => ?_, iv3 (by omega) (by omega) (by omega), iv3n (by omega) (by omega) (by omega), HY.out, HGB.out, HFY.out⟩⟩
            match k, hk with
            | 0, _ => exact ⟨d0, f0⟩
            | 1, _ => exact ⟨d1, f1⟩
            | 2, _ => exact ⟨d2, f2⟩
        · have HH := Lib.hid hHeld
          clear hHeld
          go_simp
          obtain ⟨x3, hx3⟩ : ∃ x, World.alloc x2 (.cells #[.pointer none, .pointer none, .pointer none] 69) = x := ⟨_, rfl⟩
          have HQ3 : Hid (Fr (fun _ => False) x2 x3) := by rw [← hx3]; exact Fr.alloc _ _ _
          have HB : Hid (x3.heap[x2.heap.size]? = some (.cells #[.pointer none, .pointer none, .pointer none] 69 (0, 0))) := by rw [← hx3]; exact alloc_new x2 (.cells #[.pointer none, .pointer none, .pointer none] 69)
          have HF3 := Lib.hid (HF2.out.trans HQ3.out (fun _ h _ => h))
          try rw [hx3]
          clear hx3
          refine hK.out _ _ ?_ (fun hNew => ?_)
          · exact HS.out _ (HX.out.trans HF3.out (fun _ h _ => h))
          clear hK K HH
          have hHeld := hNew
          clear hNew
          try simp only [Act.put, List.setIfInBounds_toArray, List.set_cons_zero, List.set_cons_succ]
          refine wpAnyH_ready (rs := [6]) (by kernel_rfl) (by simp) ?_
          refine AllReadyH.cons rfl (fun K hK => ?_) AllReadyH.nil
          have HH := Lib.hid hHeld
          clear hHeld
          go_simp
          refine (HN0.out _).mono ?_
          rintro e x4 ⟨r2, d2, rfl, hf, hb⟩
          have HQ4 : Hid (Fr (fun _ => False) _ x4) := fr_bel0 hb
          have HR2 := Lib.hid hf
          have HF4 := Lib.hid (HF3.out.trans HQ4.out (fun _ h _ => h))
          clear hf hb
          refine hK.out _ _ ?_ (fun hNew => ?_)
          · exact HS.out _ (HX.out.trans HF4.out (fun _ h _ => h))
          clear hK K HH
          have hHeld := hNew
          clear hNew
          try simp only [Act.put, List.setIfInBounds_toArray, List.set_cons_zero, List.set_cons_succ]
          refine takeH (i := 7) (d := 21) (v := ?va5) rfl (by kernel_rfl) (by kernel_rfl) (by kernel_rfl) (by kernel_rfl) (fun _ _ _ h => h) (Or.inl ⟨by kernel_rfl, ?hya5⟩) hHeld ?resta5
          case hya5 =>
            intro w hSw
            try dsimp only at hSw
            first | (go_simp; done) | (go_simp; with_reducible rfl)
          try simp only [Act.put, List.setIfInBounds_toArray, List.set_cons_zero, List.set_cons_succ]
          obtain ⟨g, hg⟩ : ∃ g, x2.heap.size = g := ⟨_, rfl⟩
          have HG := Lib.hid hg
          have hb3 := HB.out
          rw [hg] at hb3
          rw [hg]
          clear hg
          have hb4 := (HQ4.out.block g (lt_of_blk hb3) (fun h => h)).trans hb3
          have cz0 : x4.cell? ⟨g, 0, none⟩ = some (.pointer none) := cell_of_blk hb4 0
          have fz0 : x4.frozen? ⟨g, 0, none⟩ = false := free_of_blk hb4 0
          have cz1 : x4.cell? ⟨g, 1, none⟩ = some (.pointer none) := cell_of_blk hb4 1
          have fz1 : x4.frozen? ⟨g, 1, none⟩ = false := free_of_blk hb4 1
          have cz2 : x4.cell? ⟨g, 2, none⟩ = some (.pointer none) := cell_of_blk hb4 2
          have fz2 : x4.frozen? ⟨g, 2, none⟩ = false := free_of_blk hb4 2
          have HBK := Lib.hid hb4
          have HZB := Lib.hid (lt_of_blk hb3)
          clear hb3 hb4
          refine wpAnyH_ready (rs := [9]) (by kernel_rfl) (by simp) ?_
          refine AllReadyH.cons rfl (fun K hK => ?_) AllReadyH.nil
          have HH := Lib.hid hHeld
          clear hHeld
          go_simp
          obtain ⟨y, hy⟩ : ∃ y, ((x4.setCell ⟨g, 0, none⟩ (.pointer (some ⟨r0, 0, none⟩))).setCell ⟨g, 1, none⟩ (.pointer (some ⟨r1, 0, none⟩))).setCell ⟨g, 2, none⟩ (.pointer (some ⟨r2, 0, none⟩)) = y := ⟨_, rfl⟩
          have HY : Hid (y.heap[g]? = some (.cells #[.pointer (some ⟨r0, 0, none⟩), .pointer (some ⟨r1, 0, none⟩), .pointer (some ⟨r2, 0, none⟩)] 69 (0, 0))) := by rw [← hy]; exact set3 HBK.out
          have HQY : Hid (Fr (fun i => i = g) x4 y) := by rw [← hy]; exact set3_fr
          have HGB : Hid (W0.heap.size ≤ g) := by have h1 := HG.out; have h2 := HF2.out.size; show _ ≤ _; omega
          have HFY : Hid (Fr (fun _ => False) W0 y) := HF4.out.wide HQY.out (fun i hi => .inr (by rw [hi]; exact HGB.out))
          try rw [hy]
          clear hy cz0 cz1 cz2 fz0 fz1 fz2
          refine hK.out _ _ ?_ (fun hNew => ?_)
          · exact HS.out _ (HX.out.trans HFY.out (fun _ h _ => h))
          clear hK K HH
          have hHeld := hNew
          clear hNew
          try simp only [Act.put, List.setIfInBounds_toArray, List.set_cons_zero, List.set_cons_succ]
          refine wpAnyH_done (by kernel_rfl) ?_ _
          go_wp2_with fail
          go_meet
          case rel =>
            have z1 : W0.heap.size ≤ x1.heap.size := HQ1.out.size
            have z2 := HQ2.out.size
            have z3 := HQ3.out.size
            have z4 := HQ4.out.size
            have zy := HQY.out.size
            have hg := HG.out
            have hzb := HZB.out
            have f0 : FloF y W0.heap.size (iv W0.heap.size x1.heap.size) r0 d0 _ _ := ((((HR0.out.quiet HQ2.out).quiet HQ3.out).quiet HQ4.out).other HQY.out (fun i hi e => by have h1 : iv W0.heap.size x1.heap.size i := hi; have := h1.1; have := h1.2; omega)).base (by show W0.heap.size ≤ W0.heap.size; omega)
            have f1 : FloF y W0.heap.size (iv x1.heap.size x2.heap.size) r1 d1 _ _ := (((HR1.out.quiet HQ3.out).quiet HQ4.out).other HQY.out (fun i hi e => by have h1 : iv x1.heap.size x2.heap.size i := hi; have := h1.1; have := h1.2; omega)).base (by show W0.heap.size ≤ x1.heap.size; omega)
            have f2 : FloF y W0.heap.size (iv x3.heap.size x4.heap.size) r2 d2 _ _ := (HR2.out.other HQY.out (fun i hi e => by have h1 : iv x3.heap.size x4.heap.size i := hi; have := h1.1; have := h1.2; omega)).base (by show W0.heap.size ≤ x3.heap.size; omega)
            refine ⟨g, r0, r1, r2, pick3 (iv W0.heap.size x1.heap.size) (iv x1.heap.size x2.heap.size) (iv x3.heap.size x4.heap.size), rfl, ⟨fun k hk => ?_, iv3 (by omega) (by omega) (by omega), iv3n (by omega) (by omega) (by omega), HY.out, HGB.out, HFY.out⟩⟩
            match k, hk with
            | 0, _ => exact ⟨d0, f0⟩
            | 1, _ => exact ⟨d1, f1⟩
            | 2, _ => exact ⟨d2, f2⟩
      · have HH := Lib.hid hHeld
        clear hHeld
        go_simp
        obtain ⟨x2, hx2⟩ : ∃ x, World.alloc x1 (.cells #[.pointer none, .pointer none, .pointer none] 69) = x := ⟨_, rfl⟩
        have HQ2 : Hid (Fr (fun _ => False) x1 x2) := by rw [← hx2]; exact Fr.alloc _ _ _
        have HB : Hid (x2.heap[x1.heap.size]? = some (.cells #[.pointer none, .pointer none, .pointer none] 69 (0, 0))) := by rw [← hx2]; exact alloc_new x1 (.cells #[.pointer none, .pointer none, .pointer none] 69)
        have HF2 := Lib.hid (HF1.out.trans HQ2.out (fun _ h _ => h))
        try rw [hx2]
        clear hx2
        refine hK.out _ _ ?_ (fun hNew => ?_)
        · exact HS.out _ (HX.out.trans HF2.out (fun _ h _ => h))
        clear hK K HH
        have hHeld := hNew
        clear hNew
        try simp only [Act.put, List.setIfInBounds_toArray, List.set_cons_zero, List.set_cons_succ]
        refine wpAnyH_ready (rs := [5]) (by kernel_rfl) (by simp) ?_
        refine AllReadyH.cons rfl (fun K hK => ?_) AllReadyH.nil
        have HH := Lib.hid hHeld
        clear hHeld
        go_simp
        refine (floNew_any _ s1).mono ?_
        rintro e x3 ⟨r1, d1, rfl, hf, hb⟩
        have HQ3 : Hid (Fr (fun _ => False) _ x3) := fr_bel0 hb
        have HR1 := Lib.hid hf
        have HF3 := Lib.hid (HF2.out.trans HQ3.out (fun _ h _ => h))
        clear hf hb
        refine hK.out _ _ ?_ (fun hNew => ?_)
        · exact HS.out _ (HX.out.trans HF3.out (fun _ h _ => h))
        clear hK K HH
        have hHeld := hNew
        clear hNew
        try simp only [Act.put, List.setIfInBounds_toArray, List.set_cons_zero, List.set_cons_succ]
        refine wpAnyH_ready (rs := [6]) (by kernel_rfl) (by simp) ?_
        refine AllReadyH.cons rfl (fun K hK => ?_) AllReadyH.nil
        have HH := Lib.hid hHeld
        clear hHeld
        go_simp
        refine (HN0.out _).mono ?_
        rintro e x4 ⟨r2, d2, rfl, hf, hb⟩
        have HQ4 : Hid (Fr (fun _ => False) _ x4) := fr_bel0 hb
        have HR2 := Lib.hid hf
        have HF4 := Lib.hid (HF3.out.trans HQ4.out (fun _ h _ => h))
        clear hf hb
        refine hK.out _ _ ?_ (fun hNew => ?_)
        · exact HS.out _ (HX.out.trans HF4.out (fun _ h _ => h))
        clear hK K HH
        have hHeld := hNew
        clear hNew
        try simp only [Act.put, List.setIfInBounds_toArray, List.set_cons_zero, List.set_cons_succ]
        refine takeH (i := 7) (d := 21) (v := ?va6) rfl (by kernel_rfl) (by kernel_rfl) (by kernel_rfl) (by kernel_rfl) (fun _ _ _ h => h) (Or.inl ⟨by kernel_rfl, ?hya6⟩) hHeld ?resta6
        case hya6 =>
          intro w hSw
          try dsimp only at hSw
          first | (go_simp; done) | (go_simp; with_reducible rfl)
        try simp only [Act.put, List.setIfInBounds_toArray, List.set_cons_zero, List.set_cons_succ]
        obtain ⟨g, hg⟩ : ∃ g, x1.heap.size = g := ⟨_, rfl⟩
        have HG := Lib.hid hg
        have hb2 := HB.out
        rw [hg] at hb2
        rw [hg]
        clear hg
        have hb3 := (HQ3.out.block g (lt_of_blk hb2) (fun h => h)).trans hb2
        have hb4 := (HQ4.out.block g (lt_of_blk hb3) (fun h => h)).trans hb3
        have cz0 : x4.cell? ⟨g, 0, none⟩ = some (.pointer none) := cell_of_blk hb4 0
        have fz0 : x4.frozen? ⟨g, 0, none⟩ = false := free_of_blk hb4 0
        have cz1 : x4.cell? ⟨g, 1, none⟩ = some (.pointer none) := cell_of_blk hb4 1
        have fz1 : x4.frozen? ⟨g, 1, none⟩ = false := free_of_blk hb4 1
        have cz2 : x4.cell? ⟨g, 2, none⟩ = some (.pointer none) := cell_of_blk hb4 2
        have fz2 : x4.frozen? ⟨g, 2, none⟩ = false := free_of_blk hb4 2
        have HBK := Lib.hid hb4
        have HZB := Lib.hid (lt_of_blk hb2)
        clear hb2 hb3 hb4
        refine wpAnyH_ready (rs := [9]) (by kernel_rfl) (by simp) ?_
        refine AllReadyH.cons rfl (fun K hK => ?_) AllReadyH.nil
        have HH := Lib.hid hHeld
        clear hHeld
        go_simp
        obtain ⟨y, hy⟩ : ∃ y, ((x4.setCell ⟨g, 0, none⟩ (.pointer (some ⟨r0, 0, none⟩))).setCell ⟨g, 1, none⟩ (.pointer (some ⟨r1, 0, none⟩))).setCell ⟨g, 2, none⟩ (.pointer (some ⟨r2, 0, none⟩)) = y := ⟨_, rfl⟩
        have HY : Hid (y.heap[g]? = some (.cells #[.pointer (some ⟨r0, 0, none⟩), .pointer (some ⟨r1, 0, none⟩), .pointer (some ⟨r2, 0, none⟩)] 69 (0, 0))) := by rw [← hy]; exact set3 HBK.out
        have HQY : Hid (Fr (fun i => i = g) x4 y) := by rw [← hy]; exact set3_fr
        have HGB : Hid (W0.heap.size ≤ g) := by have h1 := HG.out; have h2 := HF1.out.size; show _ ≤ _; omega
        have HFY : Hid (Fr (fun _ => False) W0 y) := HF4.out.wide HQY.out (fun i hi => .inr (by rw [hi]; exact HGB.out))
        try rw [hy]
        clear hy cz0 cz1 cz2 fz0 fz1 fz2
        refine hK.out _ _ ?_ (fun hNew => ?_)
        · exact HS.out _ (HX.out.trans HFY.out (fun _ h _ => h))
        clear hK K HH
        have hHeld := hNew
        clear hNew
        try simp only [Act.put, List.setIfInBounds_toArray, List.set_cons_zero, List.set_cons_succ]
        refine wpAnyH_done (by kernel_rfl) ?_ _
        go_wp2_with fail
        go_meet
        case rel =>
          have z1 : W0.heap.size ≤ x1.heap.size := HQ1.out.size
          have z2 := HQ2.out.size
          have z3 := HQ3.out.size
          have z4 := HQ4.out.size
          have zy := HQY.out.size
          have hg := HG.out
          have hzb := HZB.out
          have f0 : FloF y W0.heap.size (iv W0.heap.size x1.heap.size) r0 d0 _ _ := ((((HR0.out.quiet HQ2.out).quiet HQ3.out).quiet HQ4.out).other HQY.out (fun i hi e => by have h1 : iv W0.heap.size x1.heap.size i := hi; have := h1.1; have := h1.2; omega)).base (by show W0.heap.size ≤ W0.heap.size; omega)
          have f1 : FloF y W0.heap.size (iv x2.heap.size x3.heap.size) r1 d1 _ _ := ((HR1.out.quiet HQ4.out).other HQY.out (fun i hi e => by have h1 : iv x2.heap.size x3.heap.size i := hi; have := h1.1; have := h1.2; omega)).base (by show W0.heap.size ≤ x2.heap.size; omega)
          have f2 : FloF y W0.heap.size (iv x3.heap.size x4.heap.size) r2 d2 _ _ := (HR2.out.other HQY.out (fun i hi e => by have h1 : iv x3.heap.size x4.heap.size i := hi; have := h1.1; have := h1.2; omega)).base (by show W0.heap.size ≤ x3.heap.size; omega)
          refine ⟨g, r0, r1, r2, pick3 (iv W0.heap.size x1.heap.size) (iv x2.heap.size x3.heap.size) (iv x3.heap.size x4.heap.size), rfl, ⟨fun k hk => ?_, iv3 (by omega) (by omega) (by omega), iv3n (by omega) (by omega) (by omega), HY.out, HGB.out, HFY.out⟩⟩
          match k, hk with
          | 0, _ => exact ⟨d0, f0⟩
          | 1, _ => exact ⟨d1, f1⟩
          | 2, _ => exact ⟨d2, f2⟩
    · have HH := Lib.hid hHeld
      clear hHeld
      go_simp
      obtain ⟨x1, hx1⟩ : ∃ x, World.drew (World.alloc W0 (.cells #[.pointer none, .pointer none, .pointer none] 69)) = x := ⟨_, rfl⟩
      have HQ1 : Hid (Fr (fun _ => False) W0 x1) := by rw [← hx1]; exact (Fr.alloc _ _ _).thenDrew
      have HB : Hid (x1.heap[W0.heap.size]? = some (.cells #[.pointer none, .pointer none, .pointer none] 69 (0, 0))) := by rw [← hx1]; exact alloc_new W0 (.cells #[.pointer none, .pointer none, .pointer none] 69)
      have HF1 := HQ1
      try rw [hx1]
      clear hx1
      refine hK.out _ _ ?_ (fun hNew => ?_)
      · exact HS.out _ (HX.out.trans HF1.out (fun _ h _ => h))
      clear hK K HH
      have hHeld := hNew
      clear hNew
      try simp only [Act.put, List.setIfInBounds_toArray, List.set_cons_zero, List.set_cons_succ]
      refine wpAnyH_ready (rs := [2]) (by kernel_rfl) (by simp) ?_
      refine AllReadyH.cons rfl (fun K hK => ?_) AllReadyH.nil
      have HH := Lib.hid hHeld
      clear hHeld
      go_simp
      refine (floNew_any _ s0).mono ?_
      rintro e x2 ⟨r0, d0, rfl, hf, hb⟩
      have HQ2 : Hid (Fr (fun _ => False) _ x2) := fr_bel0 hb
      have HR0 := Lib.hid hf
      have HF2 := Lib.hid (HF1.out.trans HQ2.out (fun _ h _ => h))
      clear hf hb
      refine hK.out _ _ ?_ (fun hNew => ?_)
      · exact HS.out _ (HX.out.trans HF2.out (fun _ h _ => h))
      clear hK K HH
      have hHeld := hNew
      clear hNew
      try simp only [Act.put, List.setIfInBounds_toArray, List.set_cons_zero, List.set_cons_succ]
      refine wpAnyH_ready (rs := [5]) (by kernel_rfl) (by simp) ?_
      refine AllReadyH.cons rfl (fun K hK => ?_) AllReadyH.nil
      have HH := Lib.hid hHeld
      clear hHeld
      go_simp
      refine (floNew_any _ s1).mono ?_
      rintro e x3 ⟨r1, d1, rfl, hf, hb⟩
      have HQ3 : Hid (Fr (fun _ => False) _ x3) := fr_bel0 hb
      have HR1 := Lib.hid hf
      have HF3 := Lib.hid (HF2.out.trans HQ3.out (fun _ h _ => h))
      clear hf hb
      refine hK.out _ _ ?_ (fun hNew => ?_)
      · exact HS.out _ (HX.out.trans HF3.out (fun _ h _ => h))
      clear hK K HH
      have hHeld := hNew
      clear hNew
      try simp only [Act.put, List.setIfInBounds_toArray, List.set_cons_zero, List.set_cons_succ]
      refine wpAnyH_ready (rs := [6]) (by kernel_rfl) (by simp) ?_
      refine AllReadyH.cons rfl (fun K hK => ?_) AllReadyH.nil
      have HH := Lib.hid hHeld
      clear hHeld
      go_simp
      refine (HN0.out _).mono ?_
      rintro e x4 ⟨r2, d2, rfl, hf, hb⟩
      have HQ4 : Hid (Fr (fun _ => False) _ x4) := fr_bel0 hb
      have HR2 := Lib.hid hf
      have HF4 := Lib.hid (HF3.out.trans HQ4.out (fun _ h _ => h))
      clear hf hb
      refine hK.out _ _ ?_ (fun hNew => ?_)
      · exact HS.out _ (HX.out.trans HF4.out (fun _ h _ => h))
      clear hK K HH
      have hHeld := hNew
      clear hNew
      try simp only [Act.put, List.setIfInBounds_toArray, List.set_cons_zero, List.set_cons_succ]
      refine takeH (i := 7) (d := 21) (v := ?va7) rfl (by kernel_rfl) (by kernel_rfl) (by kernel_rfl) (by kernel_rfl) (fun _ _ _ h => h) (Or.inl ⟨by kernel_rfl, ?hya7⟩) hHeld ?resta7
      case hya7 =>
        intro w hSw
        try dsimp only at hSw
        first | (go_simp; done) | (go_simp; with_reducible rfl)
      try simp only [Act.put, List.setIfInBounds_toArray, List.set_cons_zero, List.set_cons_succ]
      obtain ⟨g, hg⟩ : ∃ g, W0.heap.size = g := ⟨_, rfl⟩
      have HG := Lib.hid hg
      have hb1 := HB.out
      rw [hg] at hb1
      rw [hg]
      clear hg
      have hb2 := (HQ2.out.block g (lt_of_blk hb1) (fun h => h)).trans hb1
      have hb3 := (HQ3.out.block g (lt_of_blk hb2) (fun h => h)).trans hb2
      have hb4 := (HQ4.out.block g (lt_of_blk hb3) (fun h => h)).trans hb3
      have cz0 : x4.cell? ⟨g, 0, none⟩ = some (.pointer none) := cell_of_blk hb4 0
      have fz0 : x4.frozen? ⟨g, 0, none⟩ = false := free_of_blk hb4 0
      have cz1 : x4.cell? ⟨g, 1, none⟩ = some (.pointer none) := cell_of_blk hb4 1
      have fz1 : x4.frozen? ⟨g, 1, none⟩ = false := free_of_blk hb4 1
      have cz2 : x4.cell? ⟨g, 2, none⟩ = some (.pointer none) := cell_of_blk hb4 2
      have fz2 : x4.frozen? ⟨g, 2, none⟩ = false := free_of_blk hb4 2
      have HBK := Lib.hid hb4
      have HZB := Lib.hid (lt_of_blk hb1)
      clear hb1 hb2 hb3 hb4
      refine wpAnyH_ready (rs := [9]) (by kernel_rfl) (by simp) ?_
      refine AllReadyH.cons rfl (fun K hK => ?_) AllReadyH.nil
      have HH := Lib.hid hHeld
      clear hHeld
      go_simp
      obtain ⟨y, hy⟩ : ∃ y, ((x4.setCell ⟨g, 0, none⟩ (.pointer (some ⟨r0, 0, none⟩))).setCell ⟨g, 1, none⟩ (.pointer (some ⟨r1, 0, none⟩))).setCell ⟨g, 2, none⟩ (.pointer (some ⟨r2, 0, none⟩)) = y := ⟨_, rfl⟩
      have HY : Hid (y.heap[g]? = some (.cells #[.pointer (some ⟨r0, 0, none⟩), .pointer (some ⟨r1, 0, none⟩), .pointer (some ⟨r2, 0, none⟩)] 69 (0, 0))) := by rw [← hy]; exact set3 HBK.out
      have HQY : Hid (Fr (fun i => i = g) x4 y) := by rw [← hy]; exact set3_fr
      have HGB : Hid (W0.heap.size ≤ g) := by have h1 := HG.out; show _ ≤ _; omega
      have HFY : Hid (Fr (fun _ => False) W0 y) := HF4.out.wide HQY.out (fun i hi => .inr (by rw [hi]; exact HGB.out))
      try rw [hy]
      clear hy cz0 cz1 cz2 fz0 fz1 fz2
      refine hK.out _ _ ?_ (fun hNew => ?_)
      · exact HS.out _ (HX.out.trans HFY.out (fun _ h _ => h))
      clear hK K HH
      have hHeld := hNew
      clear hNew
      try simp only [Act.put, List.setIfInBounds_toArray, List.set_cons_zero, List.set_cons_succ]
      refine wpAnyH_done (by kernel_rfl) ?_ _
      go_wp2_with fail
      go_meet
      case rel =>
        have z1 := HQ1.out.size
        have z2 := HQ2.out.size
        have z3 := HQ3.out.size
        have z4 := HQ4.out.size
        have zy := HQY.out.size
        have hg := HG.out
        have hzb := HZB.out
        have f0 : FloF y W0.heap.size (iv x1.heap.size x2.heap.size) r0 d0 _ _ := (((HR0.out.quiet HQ3.out).quiet HQ4.out).other HQY.out (fun i hi e => by have h1 : iv x1.heap.size x2.heap.size i := hi; have := h1.1; have := h1.2; omega)).base (by show W0.heap.size ≤ x1.heap.size; omega)
        have f1 : FloF y W0.heap.size (iv x2.heap.size x3.heap.size) r1 d1 _ _ := ((HR1.out.quiet HQ4.out).other HQY.out (fun i hi e => by have h1 : iv x2.heap.size x3.heap.size i := hi; have := h1.1; have := h1.2; omega)).base (by show W0.heap.size ≤ x2.heap.size; omega)
        have f2 : FloF y W0.heap.size (iv x3.heap.size x4.heap.size) r2 d2 _ _ := (HR2.out.other HQY.out (fun i hi e => by have h1 : iv x3.heap.size x4.heap.size i := hi; have := h1.1; have := h1.2; omega)).base (by show W0.heap.size ≤ x3.heap.size; omega)
        refine ⟨g, r0, r1, r2, pick3 (iv x1.heap.size x2.heap.size) (iv x2.heap.size x3.heap.size) (iv x3.heap.size x4.heap.size), rfl, ⟨fun k hk => ?_, iv3 (by omega) (by omega) (by omega), iv3n (by omega) (by omega) (by omega), HY.out, HGB.out, HFY.out⟩⟩
        match k, hk with
        | 0, _ => exact ⟨d0, f0⟩
        | 1, _ => exact ⟨d1, f1⟩
        | 2, _ => exact ⟨d2, f2⟩
  case rest =>
  obtain ⟨gg, ra, rb, rc, FF, rfl, HFS⟩ := hcut
  obtain ⟨W1, rfl⟩ : ∃ x, x = wc := ⟨_, rfl⟩
  clear HX
  have HX : Hid (Fr (fun _ => False) W0 W1) := HFS.out.fr
  go_upto_region 2 with (fail)
  go_cut [6] from 22 to 29 (fun u6 wc => ∃ (g r0 r1 r2 : Nat) (F : Nat → Nat → Prop), u6 = .pointer (some ⟨g, 0, none⟩) ∧ Hid (Ms1 W1 wc (pick3 s0 s1 0) g (pick3 r0 r1 r2) F))
  case first =>
    refine wp_region_held_drew (S := fun V => V.cell? ⟨w.heap.size, 0, none⟩ = some (.int .u64 (wd s0)) ∧ V.cell? ⟨w.heap.size, 1, none⟩ = some (.int .u64 (wd s1))) (by kernel_rfl) ?_ (fun hHeld => ?_)
    · exact HS.out _ (HX.out.trans (Fr.drew _ _) (fun _ h _ => h))
    refine takeH (i := 0) (d := 22) (v := ?vb0) rfl (by kernel_rfl) (by kernel_rfl) (by kernel_rfl) (by kernel_rfl) (fun _ _ _ h => h) (Or.inl ⟨by kernel_rfl, ?hyb0⟩) hHeld ?restb0
    case hyb0 =>
      intro w hSw
      try dsimp only at hSw
      first | (go_simp; done) | (go_simp; with_reducible rfl)
    try simp only [Act.put, List.setIfInBounds_toArray, List.set_cons_zero, List.set_cons_succ]
    refine takeH (i := 1) (d := 23) (v := ?vb1) rfl (by kernel_rfl) (by kernel_rfl) (by kernel_rfl) (by kernel_rfl) (fun _ _ _ h => h) (Or.inl ⟨by kernel_rfl, ?hyb1⟩) hHeld ?restb1
    case hyb1 =>
      intro w hSw
      try dsimp only at hSw
      first | (go_simp; done) | (go_simp; with_reducible rfl)
    try simp only [Act.put, List.setIfInBounds_toArray, List.set_cons_zero, List.set_cons_succ]
    refine takeH (i := 3) (d := 25) (v := ?vb2) rfl (by kernel_rfl) (by kernel_rfl) (by kernel_rfl) (by kernel_rfl) (fun _ _ _ h => h) (Or.inl ⟨by kernel_rfl, ?hyb2⟩) hHeld ?restb2
    case hyb2 =>
      intro w hSw
      try dsimp only at hSw
      first | (go_simp; done) | (go_simp; with_reducible rfl)
    try simp only [Act.put, List.setIfInBounds_toArray, List.set_cons_zero, List.set_cons_succ]
    refine takeH (i := 4) (d := 26) (v := ?vb3) rfl (by kernel_rfl) (by kernel_rfl) (by kernel_rfl) (by kernel_rfl) (fun _ _ _ h => h) (Or.inl ⟨by kernel_rfl, ?hyb3⟩) hHeld ?restb3
    case hyb3 =>
      intro w hSw
      try dsimp only at hSw
      first | (go_simp; done) | (go_simp; with_reducible rfl)
    try simp only [Act.put, List.setIfInBounds_toArray, List.set_cons_zero, List.set_cons_succ]
    refine wpAnyH_ready (rs := [2, 8]) (by kernel_rfl) (by simp) ?_
    refine AllReadyH.cons rfl (fun K hK => ?_) (AllReadyH.cons rfl (fun K hK => ?_) AllReadyH.nil)
    · have HH := Lib.hid hHeld
      clear hHeld
      go_simp
      refine (rfNew_any s0 _).mono ?_
      rintro e x1 ⟨r0, p0, Fd0, X0, rfl, hf, hb⟩
      have HQ1 : Hid (Fr (fun _ => False) _ x1) := hb
      have HR0 := Lib.hid hf
      have HF1 := Lib.hid ((Fr.drew (fun _ => False) W1).trans HQ1.out (fun _ h _ => h))
      clear hf hb
      refine hK.out _ _ ?_ (fun hNew => ?_)
      · exact HS.out _ (HX.out.trans HF1.out (fun _ h _ => h))
      clear hK K HH
      have hHeld := hNew
      clear hNew
      try simp only [Act.put, List.setIfInBounds_toArray, List.set_cons_zero, List.set_cons_succ]
      refine wpAnyH_ready (rs := [5, 8]) (by kernel_rfl) (by simp) ?_
      refine AllReadyH.cons rfl (fun K hK => ?_) (AllReadyH.cons rfl (fun K hK => ?_) AllReadyH.nil)
      · have HH := Lib.hid hHeld
        clear hHeld
        go_simp
        refine (rfNew_any s1 _).mono ?_
        rintro e x2 ⟨r1, p1, Fd1, X1, rfl, hf, hb⟩
        have HQ2 : Hid (Fr (fun _ => False) _ x2) := hb
        have HR1 := Lib.hid hf
        have HF2 := Lib.hid (HF1.out.trans HQ2.out (fun _ h _ => h))
        clear hf hb
        refine hK.out _ _ ?_ (fun hNew => ?_)
        · exact HS.out _ (HX.out.trans HF2.out (fun _ h _ => h))
        clear hK K HH
        have hHeld := hNew
        clear hNew
        try simp only [Act.put, List.setIfInBounds_toArray, List.set_cons_zero, List.set_cons_succ]
        refine wpAnyH_ready (rs := [6, 8]) (by kernel_rfl) (by simp) ?_
        refine AllReadyH.cons rfl (fun K hK => ?_) (AllReadyH.cons rfl (fun K hK => ?_) AllReadyH.nil)
        · have HH := Lib.hid hHeld
          clear hHeld
          go_simp
          refine (HM0.out _).mono ?_
          rintro e x3 ⟨r2, p2, Fd2, X2, rfl, hf, hb⟩
          have HQ3 : Hid (Fr (fun _ => False) _ x3) := hb
          have HR2 := Lib.hid hf
          have HF3 := Lib.hid (HF2.out.trans HQ3.out (fun _ h _ => h))
          clear hf hb
          refine hK.out _ _ ?_ (fun hNew => ?_)
          · exact HS.out _ (HX.out.trans HF3.out (fun _ h _ => h))
          clear hK K HH
          have hHeld := hNew
          clear hNew
          try simp only [Act.put, List.setIfInBounds_toArray, List.set_cons_zero, List.set_cons_succ]
          refine takeH (i := 7) (d := 29) (v := ?vb4) rfl (by kernel_rfl) (by kernel_rfl) (by kernel_rfl) (by kernel_rfl) (fun _ _ _ h => h) (Or.inl ⟨by kernel_rfl, ?hyb4⟩) hHeld ?restb4
          case hyb4 =>
            intro w hSw
            try dsimp only at hSw
            first | (go_simp; done) | (go_simp; with_reducible rfl)
          try simp only [Act.put, List.setIfInBounds_toArray, List.set_cons_zero, List.set_cons_succ]
          refine wpAnyH_ready (rs := [8]) (by kernel_rfl) (by simp) ?_
          refine AllReadyH.cons rfl (fun K hK => ?_) AllReadyH.nil
          have HH := Lib.hid hHeld
          clear hHeld
          go_simp
          obtain ⟨x4, hx4⟩ : ∃ x, World.alloc x3 (.cells #[.pointer none, .pointer none, .pointer none] 72) = x := ⟨_, rfl⟩
          have HQ4 : Hid (Fr (fun _ => False) x3 x4) := by rw [← hx4]; exact Fr.alloc _ _ _
          have HB : Hid (x4.heap[x3.heap.size]? = some (.cells #[.pointer none, .pointer none, .pointer none] 72 (0, 0))) := by rw [← hx4]; exact alloc_new x3 (.cells #[.pointer none, .pointer none, .pointer none] 72)
          have HF4 := Lib.hid (HF3.out.trans HQ4.out (fun _ h _ => h))
          try rw [hx4]
          clear hx4
          refine hK.out _ _ ?_ (fun hNew => ?_)
          · exact HS.out _ (HX.out.trans HF4.out (fun _ h _ => h))
          clear hK K HH
          have hHeld := hNew
          clear hNew
          try simp only [Act.put, List.setIfInBounds_toArray, List.set_cons_zero, List.set_cons_succ]
          obtain ⟨g, hg⟩ : ∃ g, x3.heap.size = g := ⟨_, rfl⟩
          have HG := Lib.hid hg
          have hb4 := HB.out
          rw [hg] at hb4
          rw [hg]
          clear hg
          have cz0 : x4.cell? ⟨g, 0, none⟩ = some (.pointer none) := cell_of_blk hb4 0
          have fz0 : x4.frozen? ⟨g, 0, none⟩ = false := free_of_blk hb4 0
          have cz1 : x4.cell? ⟨g, 1, none⟩ = some (.pointer none) := cell_of_blk hb4 1
          have fz1 : x4.frozen? ⟨g, 1, none⟩ = false := free_of_blk hb4 1
          have cz2 : x4.cell? ⟨g, 2, none⟩ = some (.pointer none) := cell_of_blk hb4 2
          have fz2 : x4.frozen? ⟨g, 2, none⟩ = false := free_of_blk hb4 2
          have HBK := Lib.hid hb4
          have HZB := Lib.hid (lt_of_blk hb4)
          clear hb4
          refine wpAnyH_ready (rs := [9]) (by kernel_rfl) (by simp) ?_
          refine AllReadyH.cons rfl (fun K hK => ?_) AllReadyH.nil
          have HH := Lib.hid hHeld
          clear hHeld
          go_simp
          obtain ⟨y, hy⟩ : ∃ y, ((x4.setCell ⟨g, 0, none⟩ (.pointer (some ⟨r0, 0, none⟩))).setCell ⟨g, 1, none⟩ (.pointer (some ⟨r1, 0, none⟩))).setCell ⟨g, 2, none⟩ (.pointer (some ⟨r2, 0, none⟩)) = y := ⟨_, rfl⟩
          have HY : Hid (y.heap[g]? = some (.cells #[.pointer (some ⟨r0, 0, none⟩), .pointer (some ⟨r1, 0, none⟩), .pointer (some ⟨r2, 0, none⟩)] 72 (0, 0))) := by rw [← hy]; exact set3 HBK.out
          have HQY : Hid (Fr (fun i => i = g) x4 y) := by rw [← hy]; exact set3_fr
          have HGB : Hid (W1.heap.size ≤ g) := by have h1 := HG.out; have h2 := HF3.out.size; show _ ≤ _; omega
          have HFY : Hid (Fr (fun _ => False) W1 y) := HF4.out.wide HQY.out (fun i hi => .inr (by rw [hi]; exact HGB.out))
          try rw [hy]
          clear hy cz0 cz1 cz2 fz0 fz1 fz2
          refine hK.out _ _ ?_ (fun hNew => ?_)
          · exact HS.out _ (HX.out.trans HFY.out (fun _ h _ => h))
          clear hK K HH
          have hHeld := hNew
          clear hNew
          try simp only [Act.put, List.setIfInBounds_toArray, List.set_cons_zero, List.set_cons_succ]
          refine wpAnyH_done (by kernel_rfl) ?_ _
          go_wp2_with fail
          go_meet
          case rel =>
            have z1 : W1.heap.size ≤ x1.heap.size := HQ1.out.size
            have z2 := HQ2.out.size
            have z3 := HQ3.out.size
            have z4 := HQ4.out.size
            have zy := HQY.out.size
            have hg := HG.out
            have hzb := HZB.out
            have f0 : RefFx y W1.heap.size r0 (iv W1.heap.size x1.heap.size) _ _ _ p0 Fd0 X0 _ := ((((HR0.out.quiet HQ2.out).quiet HQ3.out).quiet HQ4.out).other HQY.out (fun i hi e => by have h1 : iv W1.heap.size x1.heap.size i := hi; have := h1.1; have := h1.2; omega)).base (by show W1.heap.size ≤ W1.heap.size; omega)
            have f1 : RefFx y W1.heap.size r1 (iv x1.heap.size x2.heap.size) _ _ _ p1 Fd1 X1 _ := (((HR1.out.quiet HQ3.out).quiet HQ4.out).other HQY.out (fun i hi e => by have h1 : iv x1.heap.size x2.heap.size i := hi; have := h1.1; have := h1.2; omega)).base (by show W1.heap.size ≤ x1.heap.size; omega)
            have f2 : RefFx y W1.heap.size r2 (iv x2.heap.size x3.heap.size) _ _ _ p2 Fd2 X2 _ := ((HR2.out.quiet HQ4.out).other HQY.out (fun i hi e => by have h1 : iv x2.heap.size x3.heap.size i := hi; have := h1.1; have := h1.2; omega)).base (by show W1.heap.size ≤ x2.heap.size; omega)
            refine ⟨g, r0, r1, r2, pick3 (iv W1.heap.size x1.heap.size) (iv x1.heap.size x2.heap.size) (iv x2.heap.size x3.heap.size), rfl, ⟨fun k hk => ?_, iv3 (by omega) (by omega) (by omega), iv3n (by omega) (by omega) (by omega), HY.out, HGB.out, HFY.out⟩⟩
            match k, hk with
            | 0, _ => exact ⟨_, _, _, f0⟩
            | 1, _ => exact ⟨_, _, _, f1⟩
            | 2, _ => exact ⟨_, _, _, f2⟩
        · have HH := Lib.hid hHeld
          clear hHeld
          go_simp
          obtain ⟨x3, hx3⟩ : ∃ x, World.alloc x2 (.cells #[.pointer none, .pointer none, .pointer none] 72) = x := ⟨_, rfl⟩
          have HQ3 : Hid (Fr (fun _ => False) x2 x3) := by rw [← hx3]; exact Fr.alloc _ _ _
          have HB : Hid (x3.heap[x2.heap.size]? = some (.cells #[.pointer none, .pointer none, .pointer none] 72 (0, 0))) := by rw [← hx3]; exact alloc_new x2 (.cells #[.pointer none, .pointer none, .pointer none] 72)
          have HF3 := Lib.hid (HF2.out.trans HQ3.out (fun _ h _ => h))
          try rw [hx3]
          clear hx3
          refine hK.out _ _ ?_ (fun hNew => ?_)
          · exact HS.out _ (HX.out.trans HF3.out (fun _ h _ => h))
          clear hK K HH
          have hHeld := hNew
          clear hNew
          try simp only [Act.put, List.setIfInBounds_toArray, List.set_cons_zero, List.set_cons_succ]
          refine wpAnyH_ready (rs := [6]) (by kernel_rfl) (by simp) ?_
          refine AllReadyH.cons rfl (fun K hK => ?_) AllReadyH.nil
          have HH := Lib.hid hHeld
          clear hHeld
          go_simp
          refine (HM0.out _).mono ?_
          rintro e x4 ⟨r2, p2, Fd2, X2, rfl, hf, hb⟩
          have HQ4 : Hid (Fr (fun _ => False) _ x4) := hb
          have HR2 := Lib.hid hf
          have HF4 := Lib.hid (HF3.out.trans HQ4.out (fun _ h _ => h))
          clear hf hb
          refine hK.out _ _ ?_ (fun hNew => ?_)
          · exact HS.out _ (HX.out.trans HF4.out (fun _ h _ => h))
          clear hK K HH
          have hHeld := hNew
          clear hNew
          try simp only [Act.put, List.setIfInBounds_toArray, List.set_cons_zero, List.set_cons_succ]
          refine takeH (i := 7) (d := 29) (v := ?vb5) rfl (by kernel_rfl) (by kernel_rfl) (by kernel_rfl) (by kernel_rfl) (fun _ _ _ h => h) (Or.inl ⟨by kernel_rfl, ?hyb5⟩) hHeld ?restb5
          case hyb5 =>
            intro w hSw
            try dsimp only at hSw
            first | (go_simp; done) | (go_simp; with_reducible rfl)
          try simp only [Act.put, List.setIfInBounds_toArray, List.set_cons_zero, List.set_cons_succ]
          obtain ⟨g, hg⟩ : ∃ g, x2.heap.size = g := ⟨_, rfl⟩
          have HG := Lib.hid hg
          have hb3 := HB.out
          rw [hg] at hb3
          rw [hg]
          clear hg
          have hb4 := (HQ4.out.block g (lt_of_blk hb3) (fun h => h)).trans hb3
          have cz0 : x4.cell? ⟨g, 0, none⟩ = some (.pointer none) := cell_of_blk hb4 0
          have fz0 : x4.frozen? ⟨g, 0, none⟩ = false := free_of_blk hb4 0
          have cz1 : x4.cell? ⟨g, 1, none⟩ = some (.pointer none) := cell_of_blk hb4 1
          have fz1 : x4.frozen? ⟨g, 1, none⟩ = false := free_of_blk hb4 1
          have cz2 : x4.cell? ⟨g, 2, none⟩ = some (.pointer none) := cell_of_blk hb4 2
          have fz2 : x4.frozen? ⟨g, 2, none⟩ = false := free_of_blk hb4 2
          have HBK := Lib.hid hb4
          have HZB := Lib.hid (lt_of_blk hb3)
          clear hb3 hb4
          refine wpAnyH_ready (rs := [9]) (by kernel_rfl) (by simp) ?_
          refine AllReadyH.cons rfl (fun K hK => ?_) AllReadyH.nil
          have HH := Lib.hid hHeld
          clear hHeld
          go_simp
          obtain ⟨y, hy⟩ : ∃ y, ((x4.setCell ⟨g, 0, none⟩ (.pointer (some ⟨r0, 0, none⟩))).setCell ⟨g, 1, none⟩ (.pointer (some ⟨r1, 0, none⟩))).setCell ⟨g, 2, none⟩ (.pointer (some ⟨r2, 0, none⟩)) = y := ⟨_, rfl⟩
          have HY : Hid (y.heap[g]? = some (.cells #[.pointer (some ⟨r0, 0, none⟩), .pointer (some ⟨r1, 0, none⟩), .pointer (some ⟨r2, 0, none⟩)] 72 (0, 0))) := by rw [← hy]; exact set3 HBK.out
          have HQY : Hid (Fr (fun i => i = g) x4 y) := by rw [← hy]; exact set3_fr
          have HGB : Hid (W1.heap.size ≤ g) := by have h1 := HG.out; have h2 := HF2.out.size; show _ ≤ _; omega
          have HFY : Hid (Fr (fun _ => False) W1 y) := HF4.out.wide HQY.out (fun i hi => .inr (by rw [hi]; exact HGB.out))
          try rw [hy]
          clear hy cz0 cz1 cz2 fz0 fz1 fz2
          refine hK.out _ _ ?_ (fun hNew => ?_)
          · exact HS.out _ (HX.out.trans HFY.out (fun _ h _ => h))
          clear hK K HH
          have hHeld := hNew
          clear hNew
          try simp only [Act.put, List.setIfInBounds_toArray, List.set_cons_zero, List.set_cons_succ]
          refine wpAnyH_done (by kernel_rfl) ?_ _
          go_wp2_with fail
          go_meet
          case rel =>
            have z1 : W1.heap.size ≤ x1.heap.size := HQ1.out.size
            have z2 := HQ2.out.size
            have z3 := HQ3.out.size
            have z4 := HQ4.out.size
            have zy := HQY.out.size
            have hg := HG.out
            have hzb := HZB.out
            have f0 : RefFx y W1.heap.size r0 (iv W1.heap.size x1.heap.size) _ _ _ p0 Fd0 X0 _ := ((((HR0.out.quiet HQ2.out).quiet HQ3.out).quiet HQ4.out).other HQY.out (fun i hi e => by have h1 : iv W1.heap.size x1.heap.size i := hi; have := h1.1; have := h1.2; omega)).base (by show W1.heap.size ≤ W1.heap.size; omega)
            have f1 : RefFx y W1.heap.size r1 (iv x1.heap.size x2.heap.size) _ _ _ p1 Fd1 X1 _ := (((HR1.out.quiet HQ3.out).quiet HQ4.out).other HQY.out (fun i hi e => by have h1 : iv x1.heap.size x2.heap.size i := hi; have := h1.1; have := h1.2; omega)).base (by show W1.heap.size ≤ x1.heap.size; omega)
            have f2 : RefFx y W1.heap.size r2 (iv x3.heap.size x4.heap.size) _ _ _ p2 Fd2 X2 _ := (HR2.out.other HQY.out (fun i hi e => by have h1 : iv x3.heap.size x4.heap.size i := hi; have := h1.1; have := h1.2; omega)).base (by show W1.heap.size ≤ x3.heap.size; omega)
            refine ⟨g, r0, r1, r2, pick3 (iv W1.heap.size x1.heap.size) (iv x1.heap.size x2.heap.size) (iv x3.heap.size x4.heap.size), rfl, ⟨fun k hk => ?_, iv3 (by omega) (by omega) (by omega), iv3n (by omega) (by omega) (by omega), HY.out, HGB.out, HFY.out⟩⟩
            match k, hk with
            | 0, _ => exact ⟨_, _, _, f0⟩
            | 1, _ => exact ⟨_, _, _, f1⟩
            | 2, _ => exact ⟨_, _, _, f2⟩
      · have HH := Lib.hid hHeld
        clear hHeld
        go_simp
        obtain ⟨x2, hx2⟩ : ∃ x, World.alloc x1 (.cells #[.pointer none, .pointer none, .pointer none] 72) = x := ⟨_, rfl⟩
        have HQ2 : Hid (Fr (fun _ => False) x1 x2) := by rw [← hx2]; exact Fr.alloc _ _ _
        have HB : Hid (x2.heap[x1.heap.size]? = some (.cells #[.pointer none, .pointer none, .pointer none] 72 (0, 0))) := by rw [← hx2]; exact alloc_new x1 (.cells #[.pointer none, .pointer none, .pointer none] 72)
        have HF2 := Lib.hid (HF1.out.trans HQ2.out (fun _ h _ => h))
        try rw [hx2]
        clear hx2
        refine hK.out _ _ ?_ (fun hNew => ?_)
        · exact HS.out _ (HX.out.trans HF2.out (fun _ h _ => h))
        clear hK K HH
        have hHeld := hNew
        clear hNew
        try simp only [Act.put, List.setIfInBounds_toArray, List.set_cons_zero, List.set_cons_succ]
        refine wpAnyH_ready (rs := [5]) (by kernel_rfl) (by simp) ?_
        refine AllReadyH.cons rfl (fun K hK => ?_) AllReadyH.nil
        have HH := Lib.hid hHeld
        clear hHeld
        go_simp
        refine (rfNew_any s1 _).mono ?_
        rintro e x3 ⟨r1, p1, Fd1, X1, rfl, hf, hb⟩
        have HQ3 : Hid (Fr (fun _ => False) _ x3) := hb
        have HR1 := Lib.hid hf
        have HF3 := Lib.hid (HF2.out.trans HQ3.out (fun _ h _ => h))
        clear hf hb
        refine hK.out _ _ ?_ (fun hNew => ?_)
        · exact HS.out _ (HX.out.trans HF3.out (fun _ h _ => h))
        clear hK K HH
        have hHeld := hNew
        clear hNew
        try simp only [Act.put, List.setIfInBounds_toArray, List.set_cons_zero, List.set_cons_succ]
        refine wpAnyH_ready (rs := [6]) (by kernel_rfl) (by simp) ?_
        refine AllReadyH.cons rfl (fun K hK => ?_) AllReadyH.nil
        have HH := Lib.hid hHeld
        clear hHeld
        go_simp
        refine (HM0.out _).mono ?_
        rintro e x4 ⟨r2, p2, Fd2, X2, rfl, hf, hb⟩
        have HQ4 : Hid (Fr (fun _ => False) _ x4) := hb
        have HR2 := Lib.hid hf
        have HF4 := Lib.hid (HF3.out.trans HQ4.out (fun _ h _ => h))
        clear hf hb
        refine hK.out _ _ ?_ (fun hNew => ?_)
        · exact HS.out _ (HX.out.trans HF4.out (fun _ h _ => h))
        clear hK K HH
        have hHeld := hNew
        clear hNew
        try simp only [Act.put, List.setIfInBounds_toArray, List.set_cons_zero, List.set_cons_succ]
        refine takeH (i := 7) (d := 29) (v := ?vb6) rfl (by kernel_rfl) (by kernel_rfl) (by kernel_rfl) (by kernel_rfl) (fun _ _ _ h => h) (Or.inl ⟨by kernel_rfl, ?hyb6⟩) hHeld ?restb6
        case hyb6 =>
          intro w hSw
          try dsimp only at hSw
          first | (go_simp; done) | (go_simp; with_reducible rfl)
        try simp only [Act.put, List.setIfInBounds_toArray, List.set_cons_zero, List.set_cons_succ]
        obtain ⟨g, hg⟩ : ∃ g, x1.heap.size = g := ⟨_, rfl⟩
        have HG := Lib.hid hg
        have hb2 := HB.out
        rw [hg] at hb2
        rw [hg]
        clear hg
        have hb3 := (HQ3.out.block g (lt_of_blk hb2) (fun h => h)).trans hb2
        have hb4 := (HQ4.out.block g (lt_of_blk hb3) (fun h => h)).trans hb3
        have cz0 : x4.cell? ⟨g, 0, none⟩ = some (.pointer none) := cell_of_blk hb4 0
        have fz0 : x4.frozen? ⟨g, 0, none⟩ = false := free_of_blk hb4 0
        have cz1 : x4.cell? ⟨g, 1, none⟩ = some (.pointer none) := cell_of_blk hb4 1
        have fz1 : x4.frozen? ⟨g, 1, none⟩ = false := free_of_blk hb4 1
        have cz2 : x4.cell? ⟨g, 2, none⟩ = some (.pointer none) := cell_of_blk hb4 2
        have fz2 : x4.frozen? ⟨g, 2, none⟩ = false := free_of_blk hb4 2
        have HBK := Lib.hid hb4
        have HZB := Lib.hid (lt_of_blk hb2)
        clear hb2 hb3 hb4
        refine wpAnyH_ready (rs := [9]) (by kernel_rfl) (by simp) ?_
        refine AllReadyH.cons rfl (fun K hK => ?_) AllReadyH.nil
        have HH := Lib.hid hHeld
        clear hHeld
        go_simp
        obtain ⟨y, hy⟩ : ∃ y, ((x4.setCell ⟨g, 0, none⟩ (.pointer (some ⟨r0, 0, none⟩))).setCell ⟨g, 1, none⟩ (.pointer (some ⟨r1, 0, none⟩))).setCell ⟨g, 2, none⟩ (.pointer (some ⟨r2, 0, none⟩)) = y := ⟨_, rfl⟩
        have HY : Hid (y.heap[g]? = some (.cells #[.pointer (some ⟨r0, 0, none⟩), .pointer (some ⟨r1, 0, none⟩), .pointer (some ⟨r2, 0, none⟩)] 72 (0, 0))) := by rw [← hy]; exact set3 HBK.out
        have HQY : Hid (Fr (fun i => i = g) x4 y) := by rw [← hy]; exact set3_fr
        have HGB : Hid (W1.heap.size ≤ g) := by have h1 := HG.out; have h2 := HF1.out.size; show _ ≤ _; omega
        have HFY : Hid (Fr (fun _ => False) W1 y) := HF4.out.wide HQY.out (fun i hi => .inr (by rw [hi]; exact HGB.out))
        try rw [hy]
        clear hy cz0 cz1 cz2 fz0 fz1 fz2
        refine hK.out _ _ ?_ (fun hNew => ?_)
        · exact HS.out _ (HX.out.trans HFY.out (fun _ h _ => h))
        clear hK K HH
        have hHeld := hNew
        clear hNew
        try simp only [Act.put, List.setIfInBounds_toArray, List.set_cons_zero, List.set_cons_succ]
        refine wpAnyH_done (by kernel_rfl) ?_ _
        go_wp2_with fail
        go_meet
        case rel =>
          have z1 : W1.heap.size ≤ x1.heap.size := HQ1.out.size
          have z2 := HQ2.out.size
          have z3 := HQ3.out.size
          have z4 := HQ4.out.size
          have zy := HQY.out.size
          have hg := HG.out
          have hzb := HZB.out
          have f0 : RefFx y W1.heap.size r0 (iv W1.heap.size x1.heap.size) _ _ _ p0 Fd0 X0 _ := ((((HR0.out.quiet HQ2.out).quiet HQ3.out).quiet HQ4.out).other HQY.out (fun i hi e => by have h1 : iv W1.heap.size x1.heap.size i := hi; have := h1.1; have := h1.2; omega)).base (by show W1.heap.size ≤ W1.heap.size; omega)
          have f1 : RefFx y W1.heap.size r1 (iv x2.heap.size x3.heap.size) _ _ _ p1 Fd1 X1 _ := ((HR1.out.quiet HQ4.out).other HQY.out (fun i hi e => by have h1 : iv x2.heap.size x3.heap.size i := hi; have := h1.1; have := h1.2; omega)).base (by show W1.heap.size ≤ x2.heap.size; omega)
          have f2 : RefFx y W1.heap.size r2 (iv x3.heap.size x4.heap.size) _ _ _ p2 Fd2 X2 _ := (HR2.out.other HQY.out (fun i hi e => by have h1 : iv x3.heap.size x4.heap.size i := hi; have := h1.1; have := h1.2; omega)).base (by show W1.heap.size ≤ x3.heap.size; omega)
          refine ⟨g, r0, r1, r2, pick3 (iv W1.heap.size x1.heap.size) (iv x2.heap.size x3.heap.size) (iv x3.heap.size x4.heap.size), rfl, ⟨fun k hk => ?_, iv3 (by omega) (by omega) (by omega), iv3n (by omega) (by omega) (by omega), HY.out, HGB.out, HFY.out⟩⟩
          match k, hk with
          | 0, _ => exact ⟨_, _, _, f0⟩
          | 1, _ => exact ⟨_, _, _, f1⟩
          | 2, _ => exact ⟨_, _, _, f2⟩
    · have HH := Lib.hid hHeld
      clear hHeld
      go_simp
      obtain ⟨x1, hx1⟩ : ∃ x, World.drew (World.alloc W1 (.cells #[.pointer none, .pointer none, .pointer none] 72)) = x := ⟨_, rfl⟩
      have HQ1 : Hid (Fr (fun _ => False) W1 x1) := by rw [← hx1]; exact (Fr.alloc _ _ _).thenDrew
      have HB : Hid (x1.heap[W1.heap.size]? = some (.cells #[.pointer none, .pointer none, .pointer none] 72 (0, 0))) := by rw [← hx1]; exact alloc_new W1 (.cells #[.pointer none, .pointer none, .pointer none] 72)
      have HF1 := HQ1
      try rw [hx1]
      clear hx1
      refine hK.out _ _ ?_ (fun hNew => ?_)
      · exact HS.out _ (HX.out.trans HF1.out (fun _ h _ => h))
      clear hK K HH
      have hHeld := hNew
      clear hNew
      try simp only [Act.put, List.setIfInBounds_toArray, List.set_cons_zero, List.set_cons_succ]
      refine wpAnyH_ready (rs := [2]) (by kernel_rfl) (by simp) ?_
      refine AllReadyH.cons rfl (fun K hK => ?_) AllReadyH.nil
      have HH := Lib.hid hHeld
      clear hHeld
      go_simp
      refine (rfNew_any s0 _).mono ?_
      rintro e x2 ⟨r0, p0, Fd0, X0, rfl, hf, hb⟩
      have HQ2 : Hid (Fr (fun _ => False) _ x2) := hb
      have HR0 := Lib.hid hf
      have HF2 := Lib.hid (HF1.out.trans HQ2.out (fun _ h _ => h))
      clear hf hb
      refine hK.out _ _ ?_ (fun hNew => ?_)
      · exact HS.out _ (HX.out.trans HF2.out (fun _ h _ => h))
      clear hK K HH
      have hHeld := hNew
      clear hNew
      try simp only [Act.put, List.setIfInBounds_toArray, List.set_cons_zero, List.set_cons_succ]
      refine wpAnyH_ready (rs := [5]) (by kernel_rfl) (by simp) ?_
      refine AllReadyH.cons rfl (fun K hK => ?_) AllReadyH.nil
      have HH := Lib.hid hHeld
      clear hHeld
      go_simp
      refine (rfNew_any s1 _).mono ?_
      rintro e x3 ⟨r1, p1, Fd1, X1, rfl, hf, hb⟩
      have HQ3 : Hid (Fr (fun _ => False) _ x3) := hb
      have HR1 := Lib.hid hf
      have HF3 := Lib.hid (HF2.out.trans HQ3.out (fun _ h _ => h))
      clear hf hb
      refine hK.out _ _ ?_ (fun hNew => ?_)
      · exact HS.out _ (HX.out.trans HF3.out (fun _ h _ => h))
      clear hK K HH
      have hHeld := hNew
      clear hNew
      try simp only [Act.put, List.setIfInBounds_toArray, List.set_cons_zero, List.set_cons_succ]
      refine wpAnyH_ready (rs := [6]) (by kernel_rfl) (by simp) ?_
      refine AllReadyH.cons rfl (fun K hK => ?_) AllReadyH.nil
      have HH := Lib.hid hHeld
      clear hHeld
      go_simp
      refine (HM0.out _).mono ?_
      rintro e x4 ⟨r2, p2, Fd2, X2, rfl, hf, hb⟩
      have HQ4 : Hid (Fr (fun _ => False) _ x4) := hb
      have HR2 := Lib.hid hf
      have HF4 := Lib.hid (HF3.out.trans HQ4.out (fun _ h _ => h))
      clear hf hb
      refine hK.out _ _ ?_ (fun hNew => ?_)
      · exact HS.out _ (HX.out.trans HF4.out (fun _ h _ => h))
      clear hK K HH
      have hHeld := hNew
      clear hNew
      try simp only [Act.put, List.setIfInBounds_toArray, List.set_cons_zero, List.set_cons_succ]
      refine takeH (i := 7) (d := 29) (v := ?vb7) rfl (by kernel_rfl) (by kernel_rfl) (by kernel_rfl) (by kernel_rfl) (fun _ _ _ h => h) (Or.inl ⟨by kernel_rfl, ?hyb7⟩) hHeld ?restb7
      case hyb7 =>
        intro w hSw
        try dsimp only at hSw
        first | (go_simp; done) | (go_simp; with_reducible rfl)
      try simp only [Act.put, List.setIfInBounds_toArray, List.set_cons_zero, List.set_cons_succ]
      obtain ⟨g, hg⟩ : ∃ g, W1.heap.size = g := ⟨_, rfl⟩
      have HG := Lib.hid hg
      have hb1 := HB.out
      rw [hg] at hb1
      rw [hg]
      clear hg
      have hb2 := (HQ2.out.block g (lt_of_blk hb1) (fun h => h)).trans hb1
      have hb3 := (HQ3.out.block g (lt_of_blk hb2) (fun h => h)).trans hb2
      have hb4 := (HQ4.out.block g (lt_of_blk hb3) (fun h => h)).trans hb3
      have cz0 : x4.cell? ⟨g, 0, none⟩ = some (.pointer none) := cell_of_blk hb4 0
      have fz0 : x4.frozen? ⟨g, 0, none⟩ = false := free_of_blk hb4 0
      have cz1 : x4.cell? ⟨g, 1, none⟩ = some (.pointer none) := cell_of_blk hb4 1
      have fz1 : x4.frozen? ⟨g, 1, none⟩ = false := free_of_blk hb4 1
      have cz2 : x4.cell? ⟨g, 2, none⟩ = some (.pointer none) := cell_of_blk hb4 2
      have fz2 : x4.frozen? ⟨g, 2, none⟩ = false := free_of_blk hb4 2
      have HBK := Lib.hid hb4
      have HZB := Lib.hid (lt_of_blk hb1)
      clear hb1 hb2 hb3 hb4
      refine wpAnyH_ready (rs := [9]) (by kernel_rfl) (by simp) ?_
      refine AllReadyH.cons rfl (fun K hK => ?_) AllReadyH.nil
      have HH := Lib.hid hHeld
      clear hHeld
      go_simp
      obtain ⟨y, hy⟩ : ∃ y, ((x4.setCell ⟨g, 0, none⟩ (.pointer (some ⟨r0, 0, none⟩))).setCell ⟨g, 1, none⟩ (.pointer (some ⟨r1, 0, none⟩))).setCell ⟨g, 2, none⟩ (.pointer (some ⟨r2, 0, none⟩)) = y := ⟨_, rfl⟩
      have HY : Hid (y.heap[g]? = some (.cells #[.pointer (some ⟨r0, 0, none⟩), .pointer (some ⟨r1, 0, none⟩), .pointer (some ⟨r2, 0, none⟩)] 72 (0, 0))) := by rw [← hy]; exact set3 HBK.out
      have HQY : Hid (Fr (fun i => i = g) x4 y) := by rw [← hy]; exact set3_fr
      have HGB : Hid (W1.heap.size ≤ g) := by have h1 := HG.out; show _ ≤ _; omega
      have HFY : Hid (Fr (fun _ => False) W1 y) := HF4.out.wide HQY.out (fun i hi => .inr (by rw [hi]; exact HGB.out))
      try rw [hy]
      clear hy cz0 cz1 cz2 fz0 fz1 fz2
      refine hK.out _ _ ?_ (fun hNew => ?_)
      · exact HS.out _ (HX.out.trans HFY.out (fun _ h _ => h))
      clear hK K HH
      have hHeld := hNew
      clear hNew
      try simp only [Act.put, List.setIfInBounds_toArray, List.set_cons_zero, List.set_cons_succ]
      refine wpAnyH_done (by kernel_rfl) ?_ _
      go_wp2_with fail
      go_meet
      case rel =>
        have z1 := HQ1.out.size
        have z2 := HQ2.out.size
        have z3 := HQ3.out.size
        have z4 := HQ4.out.size
        have zy := HQY.out.size
        have hg := HG.out
        have hzb := HZB.out
        have f0 : RefFx y W1.heap.size r0 (iv x1.heap.size x2.heap.size) _ _ _ p0 Fd0 X0 _ := (((HR0.out.quiet HQ3.out).quiet HQ4.out).other HQY.out (fun i hi e => by have h1 : iv x1.heap.size x2.heap.size i := hi; have := h1.1; have := h1.2; omega)).base (by show W1.heap.size ≤ x1.heap.size; omega)
        have f1 : RefFx y W1.heap.size r1 (iv x2.heap.size x3.heap.size) _ _ _ p1 Fd1 X1 _ := ((HR1.out.quiet HQ4.out).other HQY.out (fun i hi e => by have h1 : iv x2.heap.size x3.heap.size i := hi; have := h1.1; have := h1.2; omega)).base (by show W1.heap.size ≤ x2.heap.size; omega)
        have f2 : RefFx y W1.heap.size r2 (iv x3.heap.size x4.heap.size) _ _ _ p2 Fd2 X2 _ := (HR2.out.other HQY.out (fun i hi e => by have h1 : iv x3.heap.size x4.heap.size i := hi; have := h1.1; have := h1.2; omega)).base (by show W1.heap.size ≤ x3.heap.size; omega)
        refine ⟨g, r0, r1, r2, pick3 (iv x1.heap.size x2.heap.size) (iv x2.heap.size x3.heap.size) (iv x3.heap.size x4.heap.size), rfl, ⟨fun k hk => ?_, iv3 (by omega) (by omega) (by omega), iv3n (by omega) (by omega) (by omega), HY.out, HGB.out, HFY.out⟩⟩
        match k, hk with
        | 0, _ => exact ⟨_, _, _, f0⟩
        | 1, _ => exact ⟨_, _, _, f1⟩
        | 2, _ => exact ⟨_, _, _, f2⟩
  case rest =>
  obtain ⟨hh, ma, mb, mc, GG, rfl, HMS⟩ := hcut
  obtain ⟨W2, rfl⟩ : ∃ x, x = wc := ⟨_, rfl⟩
  have HT := Lib.hid (tri3_new HFS.out HMS.out)
  obtain ⟨r, hr2⟩ : ∃ r, pick3 ra rb rc = r := ⟨_, rfl⟩
  obtain ⟨m, hm2⟩ : ∃ m, pick3 ma mb mc = m := ⟨_, rfl⟩
  obtain ⟨F, hF2⟩ : ∃ F : Nat → Nat → Prop, (fun k i => FF k i ∨ GG k i) = F := ⟨_, rfl⟩
  rw [hr2, hm2, hF2] at HT
  clear hr2 hm2 hF2 HX HFS HMS HS HN0 HM0 HSZ0
  have c0 : W2.cell? ⟨gg, 0, none⟩ = some (.pointer (some ⟨r 0, 0, none⟩)) := HT.out.cg (by omega)
  have c1 : W2.cell? ⟨gg, 1, none⟩ = some (.pointer (some ⟨r 1, 0, none⟩)) := HT.out.cg (by omega)
  have c2 : W2.cell? ⟨gg, 2, none⟩ = some (.pointer (some ⟨r 2, 0, none⟩)) := HT.out.cg (by omega)
  go_wp2_with fail
  clear c0 c1 c2
  go_loopw [45] (fun i wr => ∃ (k : Nat) (r m : Nat → Nat) (F : Nat → Nat → Prop), i = .int .i64 k ∧ k ≤ l.length ∧ Hid (Tri3 W0 wr gg hh r m F)) (fun i _ => l.length - (intOf i).toNat)
  case atStart => exact ⟨0, r, m, F, rfl, by omega, HT⟩
  case round =>
    clear HT
    obtain ⟨k, r, m, F, rfl, hk, HT⟩ := hrel
    obtain ⟨wo, rfl⟩ : ∃ x, x = wr := ⟨_, rfl⟩
    by_cases hlt : k < l.length
    · have HFW : Hid (Fr (fun _ => False) w wo) := HF0.out.trans HT.out.fr (fun _ h _ => h)
      obtain ⟨g, off, e9, k0, k1, k2, k3, k4, k5⟩ := so10_at (HR.out.fr HFW.out (fun _ _ h => h)) k hlt
      have hfz := HSZ.out l[k] (List.getElem_mem hlt)
      have hbg := l[k].2.2.1
      have hct := l[k].2.2.2
      cases e9
      obtain ⟨who, hwho⟩ : ∃ x, l[k].1.who = x := ⟨_, rfl⟩
      obtain ⟨kd, hkd⟩ : ∃ x, l[k].1.do_ = x := ⟨_, rfl⟩
      obtain ⟨f, hff⟩ : ∃ x, l[k].1.member = x := ⟨_, rfl⟩
      obtain ⟨bg, hbg2⟩ : ∃ x, l[k].1.big = x := ⟨_, rfl⟩
      obtain ⟨n, hnn⟩ : ∃ x, l[k].1.n = x := ⟨_, rfl⟩
      obtain ⟨ct, hct2⟩ : ∃ x, l[k].1.count = x := ⟨_, rfl⟩
      rw [hwho] at k0
      rw [hkd] at k1
      rw [hff] at k2 hfz
      rw [hbg2] at k3 hbg
      rw [hnn] at k4
      rw [hct2] at k5 hct
      obtain ⟨nn, hn9⟩ : ∃ x, wd n = x := ⟨_, rfl⟩
      rw [hn9] at k4
      have HN9 := Lib.hid hn9
      have HFZ := Lib.hid hfz
      have HBG := Lib.hid hbg
      have HCT := Lib.hid hct
      clear hwho hkd hff hbg2 hnn hct2 hfz hbg hct hn9
      have b0 : (0 : Int) ≤ (k : Int) := by omega
      have b1 : (k : Int) < (l.length : Int) := by omega
      obtain ⟨W8, hW8⟩ : ∃ W, wo.alloc (.cells #[.int .i64 who, .int .i64 kd, .string f, .int .i64 bg, .int .u64 nn, .int .i64 ct] 74) = W := ⟨_, rfl⟩
      have HQ8 : Hid (Fr (fun _ => False) wo W8) := by rw [← hW8]; exact Fr.alloc _ _ _
      have hbx : Bx10 wo.heap.size who kd f bg nn ct W8 := by rw [← hW8]; exact Bx10.of (alloc_new _ _)
      have HBX := Lib.hid hbx
      have HT8 := Lib.hid (HT.out.quiet HQ8.out)
      clear hbx
      by_cases h11 : kd = 11
      · subst h11
        have g11 : ((11 : Int) == 11) = true := beq_self_eq_true _
        obtain ⟨d0, d1, d2, d3, d4, d5⟩ := HBX.out
        by_cases hw1 : who = 1
        · subst hw1
          have gw : ((1 : Int) == 1) = true := beq_self_eq_true _
          obtain ⟨A, F1, F2, dd, M, L, hHa⟩ := HT8.out.bo 1 (by omega)
          have HHA := Lib.hid hHa
          have cg : W8.cell? ⟨gg, 1, none⟩ = some (.pointer (some ⟨r 1, 0, none⟩)) := HT8.out.cg (by omega)
          clear hHa
          go_upto_if 51 with (fail)
          try rw [hW8]
          clear hW8 k0 k1 k2 k3 k4 k5
          go_wp2_with fail
          refine (floCopy_any HHA.out).mono ?_
          rintro e x1 ⟨r2, d2, M2, A2, rfl, hc, hn, hA, hl, hf1⟩
          have HC := Lib.hid hc
          have HNN := Lib.hid hn
          have HA2 := Lib.hid hA
          have HL2 := Lib.hid hl
          have HF1 := Lib.hid hf1
          have HT1 := Lib.hid (HT8.out.quiet hf1)
          obtain ⟨v1, hv1⟩ : ∃ x, x1.setCell ⟨gg, 2, none⟩ (.pointer (some ⟨r2, 0, none⟩)) = x := ⟨_, rfl⟩
          have HS1 : Hid (Fr (fun i => i = gg) x1 v1) := by rw [← hv1]; exact (Fr.refl (fun i => i = gg) x1).thenSet _ _ (fun _ => rfl)
          have HB1 : Hid (v1.heap[gg]? = some (blkG (pick3 (r 0) (r 1) r2))) := by rw [← hv1]; exact heap_setCell_same _ gg 2 _ _ _ HT1.out.bg
          have ch1 : v1.cell? ⟨hh, 1, none⟩ = some (.pointer (some ⟨m 1, 0, none⟩)) := HS1.out.cell (HT1.out.ch (by omega)) (fun e => HT1.out.gh e.symm)
          have HM1 := Lib.hid (((HHA.out.quiet hf1).other HS1.out (fun i hi e => HT1.out.ng 1 (by omega) (e ▸ hi)) (fun i e => by rw [e]; exact HT1.out.lg)).m)
          have cz : x1.cell? ⟨gg, 2, none⟩ = some (.pointer (some ⟨r 2, 0, none⟩)) := HT1.out.cg (by omega)
          have fz : x1.frozen? ⟨gg, 2, none⟩ = false := HT1.out.zg 2
          clear hc hn hA hl hf1 cg
          go_upto_if 66 with (fail)
          try rw [hv1]
          clear hv1 cz fz ch1
          refine (rfCopy_any HM1.out).mono ?_
          rintro e x2 ⟨mr2, l2, rfl, hm, hf2⟩
          have HM2 := Lib.hid hm
          have HF2 := Lib.hid hf2
          have HB2 : Hid (x2.heap[hh]? = some (blkH m)) := (hf2.block hh (lt_of_blk ((HS1.out.block hh HT1.out.lh' (fun e => HT1.out.gh e.symm)).trans HT1.out.bh)) (fun h => h)).trans ((HS1.out.block hh HT1.out.lh' (fun e => HT1.out.gh e.symm)).trans HT1.out.bh)
          obtain ⟨v2, hv2⟩ : ∃ x, x2.setCell ⟨hh, 2, none⟩ (.pointer (some ⟨mr2, 0, none⟩)) = x := ⟨_, rfl⟩
          have HS2 : Hid (Fr (fun i => i = hh) x2 v2) := by rw [← hv2]; exact (Fr.refl (fun i => i = hh) x2).thenSet _ _ (fun _ => rfl)
          have HB3 : Hid (v2.heap[hh]? = some (blkH (pick3 (m 0) (m 1) mr2))) := by rw [← hv2]; exact heap_setCell_same _ hh 2 _ _ _ HB2.out
          have cz : x2.cell? ⟨hh, 2, none⟩ = some (.pointer (some ⟨m 2, 0, none⟩)) := cell_of_blk HB2.out 2
          have fz : x2.frozen? ⟨hh, 2, none⟩ = false := free_of_blk HB2.out 2
          have cg2 : v2.cell? ⟨gg, 2, none⟩ = some (.pointer (some ⟨r2, 0, none⟩)) := (HS2.out.cell (HF2.out.cell (cell_of_blk HB1.out 2) (fun h => h)) HT1.out.gh)
          have HT3 := Lib.hid (HT8.out.copy (by omega) HHA.out HC.out HNN.out HA2.out HL2.out HF1.out HS1.out HB1.out HM2.out HF2.out HS2.out HB3.out)
          clear hm hf2
          go_wp2_with fail
          go_roundw
          case rel =>
            obtain ⟨F', h3⟩ := HT3.out
            exact ⟨k + 1, _, _, F', by go_num, by omega, h3⟩
          case measure => simp [intOf]; omega
        · have gw : (who == 1) = false := beq_eq_false_iff_ne.2 hw1
          obtain ⟨A, F1, F2, dd, M, L, hHa⟩ := HT8.out.bo 0 (by omega)
          have HHA := Lib.hid hHa
          have cg : W8.cell? ⟨gg, 0, none⟩ = some (.pointer (some ⟨r 0, 0, none⟩)) := HT8.out.cg (by omega)
          clear hHa
          go_upto_if 51 with (fail)
          try rw [hW8]
          clear hW8 k0 k1 k2 k3 k4 k5
          go_wp2_with fail
          refine (floCopy_any HHA.out).mono ?_
          rintro e x1 ⟨r2, d2, M2, A2, rfl, hc, hn, hA, hl, hf1⟩
          have HC := Lib.hid hc
          have HNN := Lib.hid hn
          have HA2 := Lib.hid hA
          have HL2 := Lib.hid hl
          have HF1 := Lib.hid hf1
          have HT1 := Lib.hid (HT8.out.quiet hf1)
          obtain ⟨v1, hv1⟩ : ∃ x, x1.setCell ⟨gg, 2, none⟩ (.pointer (some ⟨r2, 0, none⟩)) = x := ⟨_, rfl⟩
          have HS1 : Hid (Fr (fun i => i = gg) x1 v1) := by rw [← hv1]; exact (Fr.refl (fun i => i = gg) x1).thenSet _ _ (fun _ => rfl)
          have HB1 : Hid (v1.heap[gg]? = some (blkG (pick3 (r 0) (r 1) r2))) := by rw [← hv1]; exact heap_setCell_same _ gg 2 _ _ _ HT1.out.bg
          have ch1 : v1.cell? ⟨hh, 0, none⟩ = some (.pointer (some ⟨m 0, 0, none⟩)) := HS1.out.cell (HT1.out.ch (by omega)) (fun e => HT1.out.gh e.symm)
          have HM1 := Lib.hid (((HHA.out.quiet hf1).other HS1.out (fun i hi e => HT1.out.ng 0 (by omega) (e ▸ hi)) (fun i e => by rw [e]; exact HT1.out.lg)).m)
          have cz : x1.cell? ⟨gg, 2, none⟩ = some (.pointer (some ⟨r 2, 0, none⟩)) := HT1.out.cg (by omega)
          have fz : x1.frozen? ⟨gg, 2, none⟩ = false := HT1.out.zg 2
          clear hc hn hA hl hf1 cg
          go_upto_if 66 with (fail)
          try rw [hv1]
          clear hv1 cz fz ch1
          refine (rfCopy_any HM1.out).mono ?_
          rintro e x2 ⟨mr2, l2, rfl, hm, hf2⟩
          have HM2 := Lib.hid hm
          have HF2 := Lib.hid hf2
          have HB2 : Hid (x2.heap[hh]? = some (blkH m)) := (hf2.block hh (lt_of_blk ((HS1.out.block hh HT1.out.lh' (fun e => HT1.out.gh e.symm)).trans HT1.out.bh)) (fun h => h)).trans ((HS1.out.block hh HT1.out.lh' (fun e => HT1.out.gh e.symm)).trans HT1.out.bh)
          obtain ⟨v2, hv2⟩ : ∃ x, x2.setCell ⟨hh, 2, none⟩ (.pointer (some ⟨mr2, 0, none⟩)) = x := ⟨_, rfl⟩
          have HS2 : Hid (Fr (fun i => i = hh) x2 v2) := by rw [← hv2]; exact (Fr.refl (fun i => i = hh) x2).thenSet _ _ (fun _ => rfl)
          have HB3 : Hid (v2.heap[hh]? = some (blkH (pick3 (m 0) (m 1) mr2))) := by rw [← hv2]; exact heap_setCell_same _ hh 2 _ _ _ HB2.out
          have cz : x2.cell? ⟨hh, 2, none⟩ = some (.pointer (some ⟨m 2, 0, none⟩)) := cell_of_blk HB2.out 2
          have fz : x2.frozen? ⟨hh, 2, none⟩ = false := free_of_blk HB2.out 2
          have cg2 : v2.cell? ⟨gg, 2, none⟩ = some (.pointer (some ⟨r2, 0, none⟩)) := (HS2.out.cell (HF2.out.cell (cell_of_blk HB1.out 2) (fun h => h)) HT1.out.gh)
          have HT3 := Lib.hid (HT8.out.copy (by omega) HHA.out HC.out HNN.out HA2.out HL2.out HF1.out HS1.out HB1.out HM2.out HF2.out HS2.out HB3.out)
          clear hm hf2
          go_wp2_with fail
          go_roundw
          case rel =>
            obtain ⟨F', h3⟩ := HT3.out
            exact ⟨k + 1, _, _, F', by go_num, by omega, h3⟩
          case measure => simp [intOf]; omega
      · have g11 : (kd == 11) = false := beq_eq_false_iff_ne.2 h11
        by_cases hin : 0 ≤ who ∧ who < 3
        · have hin3 : who = 0 ∨ who = 1 ∨ who = 2 := by omega
          rcases hin3 with rfl | rfl | rfl
          · obtain ⟨A, hBo⟩ := HT8.out.bo 0 (by omega)
            have HBO := Lib.hid hBo
            have HL8 : Hid (∀ i, F 0 i → i < wo.heap.size) := fun i hi => by obtain ⟨B, hB⟩ := HT.out.bo 0 (by omega); exact (hB.lts.1 i hi).2
            obtain ⟨d0, d1, d2, d3, d4, d5⟩ := HBX.out
            have HS : Hid (∀ V, Fr (fun _ => False) W8 V → (V.cell? ⟨wo.heap.size, 0, none⟩ = some (.int .i64 0) ∧ V.cell? ⟨wo.heap.size, 1, none⟩ = some (.int .i64 kd) ∧ V.cell? ⟨wo.heap.size, 2, none⟩ = some (.string f) ∧ V.cell? ⟨wo.heap.size, 3, none⟩ = some (.int .i64 bg) ∧ V.cell? ⟨wo.heap.size, 4, none⟩ = some (.int .u64 nn) ∧ V.cell? ⟨wo.heap.size, 5, none⟩ = some (.int .i64 ct)) ∧ V.cell? ⟨gg, 0, none⟩ = some (.pointer (some ⟨r 0, 0, none⟩)) ∧ V.cell? ⟨hh, 0, none⟩ = some (.pointer (some ⟨m 0, 0, none⟩))) := fun V hf => by
              obtain ⟨d0, d1, d2, d3, d4, d5⟩ := HBX.out.fr hf (fun h => h)
              exact ⟨⟨d0, d1, d2, d3, d4, d5⟩, (HT8.out.quiet hf).cg (by omega), (HT8.out.quiet hf).ch (by omega)⟩
            have gd0 : decide ((0 : Int) ≤ 0) = true := rfl
            have gd3 : decide ((0 : Int) < 3) = true := rfl
            clear hBo
            go_upto_region 19 with (fail)
            try rw [hW8]
            clear hW8 k0 k1 k2 k3 k4 k5
            refine wp_region_held_drew (S := fun V => (V.cell? ⟨wo.heap.size, 0, none⟩ = some (.int .i64 0) ∧ V.cell? ⟨wo.heap.size, 1, none⟩ = some (.int .i64 kd) ∧ V.cell? ⟨wo.heap.size, 2, none⟩ = some (.string f) ∧ V.cell? ⟨wo.heap.size, 3, none⟩ = some (.int .i64 bg) ∧ V.cell? ⟨wo.heap.size, 4, none⟩ = some (.int .u64 nn) ∧ V.cell? ⟨wo.heap.size, 5, none⟩ = some (.int .i64 ct)) ∧ V.cell? ⟨gg, 0, none⟩ = some (.pointer (some ⟨r 0, 0, none⟩)) ∧ V.cell? ⟨hh, 0, none⟩ = some (.pointer (some ⟨m 0, 0, none⟩))) (by kernel_rfl) ?_ (fun hHeld => ?_)
            · exact HS.out _ (Fr.drew _ _)
            refine takeH (i := 0) (d := 76) (v := ?vp00) rfl (by kernel_rfl) (by kernel_rfl) (by kernel_rfl) (by kernel_rfl) (fun _ _ _ h => h) (Or.inl ⟨by kernel_rfl, ?hyp00⟩) hHeld ?restp00
            case hyp00 =>
              intro w hSw
              try dsimp only at hSw
              first | (go_simp; done) | (go_simp; with_reducible rfl)
            try simp only [Act.put, List.setIfInBounds_toArray, List.set_cons_zero, List.set_cons_succ]
            refine takeH (i := 1) (d := 77) (v := ?vp01) rfl (by kernel_rfl) (by kernel_rfl) (by kernel_rfl) (by kernel_rfl) (fun _ _ _ h => h) (Or.inl ⟨by kernel_rfl, ?hyp01⟩) hHeld ?restp01
            case hyp01 =>
              intro w hSw
              try dsimp only at hSw
              first | (go_simp; done) | (go_simp; with_reducible rfl)
            try simp only [Act.put, List.setIfInBounds_toArray, List.set_cons_zero, List.set_cons_succ]
            refine takeH (i := 2) (d := 78) (v := ?vp02) rfl (by kernel_rfl) (by kernel_rfl) (by kernel_rfl) (by kernel_rfl) (fun _ _ _ h => h) (Or.inl ⟨by kernel_rfl, ?hyp02⟩) hHeld ?restp02
            case hyp02 =>
              intro w hSw
              try dsimp only at hSw
              first | (go_simp; done) | (go_simp; with_reducible rfl)
            try simp only [Act.put, List.setIfInBounds_toArray, List.set_cons_zero, List.set_cons_succ]
            refine takeH (i := 3) (d := 79) (v := ?vp03) rfl (by kernel_rfl) (by kernel_rfl) (by kernel_rfl) (by kernel_rfl) (fun _ _ _ h => h) (Or.inl ⟨by kernel_rfl, ?hyp03⟩) hHeld ?restp03
            case hyp03 =>
              intro w hSw
              try dsimp only at hSw
              first | (go_simp; done) | (go_simp; with_reducible rfl)
            try simp only [Act.put, List.setIfInBounds_toArray, List.set_cons_zero, List.set_cons_succ]
            refine takeH (i := 4) (d := 80) (v := ?vp04) rfl (by kernel_rfl) (by kernel_rfl) (by kernel_rfl) (by kernel_rfl) (fun _ _ _ h => h) (Or.inl ⟨by kernel_rfl, ?hyp04⟩) hHeld ?restp04
            case hyp04 =>
              intro w hSw
              try dsimp only at hSw
              first | (go_simp; done) | (go_simp; with_reducible rfl)
            try simp only [Act.put, List.setIfInBounds_toArray, List.set_cons_zero, List.set_cons_succ]
            refine takeH (i := 5) (d := 81) (v := ?vp05) rfl (by kernel_rfl) (by kernel_rfl) (by kernel_rfl) (by kernel_rfl) (fun _ _ _ h => h) (Or.inl ⟨by kernel_rfl, ?hyp05⟩) hHeld ?restp05
            case hyp05 =>
              intro w hSw
              try dsimp only at hSw
              first | (go_simp; done) | (go_simp; with_reducible rfl)
            try simp only [Act.put, List.setIfInBounds_toArray, List.set_cons_zero, List.set_cons_succ]
            refine takeH (i := 6) (d := 82) (v := ?vp06) rfl (by kernel_rfl) (by kernel_rfl) (by kernel_rfl) (by kernel_rfl) (fun _ _ _ h => h) (Or.inl ⟨by kernel_rfl, ?hyp06⟩) hHeld ?restp06
            case hyp06 =>
              intro w hSw
              try dsimp only at hSw
              first | (go_simp; done) | (go_simp; with_reducible rfl)
            try simp only [Act.put, List.setIfInBounds_toArray, List.set_cons_zero, List.set_cons_succ]
            refine takeH (i := 7) (d := 83) (v := ?vp07) rfl (by kernel_rfl) (by kernel_rfl) (by kernel_rfl) (by kernel_rfl) (fun _ _ _ h => h) (Or.inl ⟨by kernel_rfl, ?hyp07⟩) hHeld ?restp07
            case hyp07 =>
              intro w hSw
              try dsimp only at hSw
              first | (go_simp; done) | (go_simp; with_reducible rfl)
            try simp only [Act.put, List.setIfInBounds_toArray, List.set_cons_zero, List.set_cons_succ]
            refine takeH (i := 8) (d := 84) (v := ?vp08) rfl (by kernel_rfl) (by kernel_rfl) (by kernel_rfl) (by kernel_rfl) (fun _ _ _ h => h) (Or.inl ⟨by kernel_rfl, ?hyp08⟩) hHeld ?restp08
            case hyp08 =>
              intro w hSw
              try dsimp only at hSw
              first | (go_simp; done) | (go_simp; with_reducible rfl)
            try simp only [Act.put, List.setIfInBounds_toArray, List.set_cons_zero, List.set_cons_succ]
            clear d0 d1 d2 d3 d4 d5
            have HPL := Lib.hid (plays_any (HBO.out.quiet (Fr.drew _ W8)) 0 kd f bg n ct HBG.out HCT.out HFZ.out)
            rw [HN9.out] at HPL
            refine wpAnyH_ready (rs := [9]) (by kernel_rfl) (by simp) ?_
            refine AllReadyH.cons rfl (fun K hK => ?_) AllReadyH.nil
            have HH := Lib.hid hHeld
            clear hHeld
            go_simp
            refine HPL.out.mono ?_
            rintro e x1 ⟨rfl, hbt⟩
            have HBT := Lib.hid hbt
            have HT1 := Lib.hid ((HT8.out.quiet (Fr.drew _ W8)).turn (by omega) hbt)
            clear hbt
            have HB9 : Hid (Bx10 wo.heap.size 0 kd f bg nn ct x1) := by obtain ⟨_, _, hf⟩ := HBT.out; exact HBX.out.fr ((Fr.drew (fun i => i ≠ wo.heap.size) W8).trans hf (fun i hi _ e => by obtain ⟨B, hB⟩ := HT8.out.bo 0 (by omega); have h1 := (HL8.out i hi); omega)) (fun h => h rfl)
            refine hK.out _ _ ?_ (fun hNew => ?_)
            · obtain ⟨F', h3⟩ := HT1.out; obtain ⟨d0, d1, d2, d3, d4, d5⟩ := HB9.out; exact ⟨⟨d0, d1, d2, d3, d4, d5⟩, h3.cg (by omega), h3.ch (by omega)⟩
            clear hK K HH
            have hHeld := hNew
            clear hNew
            try simp only [Act.put, List.setIfInBounds_toArray, List.set_cons_zero, List.set_cons_succ]
            refine takeH (i := 10) (d := 86) (v := ?vp09) rfl (by kernel_rfl) (by kernel_rfl) (by kernel_rfl) (by kernel_rfl) (fun _ _ _ h => h) (Or.inl ⟨by kernel_rfl, ?hyp09⟩) hHeld ?restp09
            case hyp09 =>
              intro w hSw
              try dsimp only at hSw
              first | (go_simp; done) | (go_simp; with_reducible rfl)
            try simp only [Act.put, List.setIfInBounds_toArray, List.set_cons_zero, List.set_cons_succ]
            refine wpAnyH_done (by kernel_rfl) ?_ _
            go_wp2_with fail
            go_roundw
            case rel =>
              obtain ⟨F', h3⟩ := HT1.out
              exact ⟨k + 1, _, _, F', by go_num, by omega, h3⟩
            case measure => simp [intOf]; omega
          · obtain ⟨A, hBo⟩ := HT8.out.bo 1 (by omega)
            have HBO := Lib.hid hBo
            have HL8 : Hid (∀ i, F 1 i → i < wo.heap.size) := fun i hi => by obtain ⟨B, hB⟩ := HT.out.bo 1 (by omega); exact (hB.lts.1 i hi).2
            obtain ⟨d0, d1, d2, d3, d4, d5⟩ := HBX.out
            have HS : Hid (∀ V, Fr (fun _ => False) W8 V → (V.cell? ⟨wo.heap.size, 0, none⟩ = some (.int .i64 1) ∧ V.cell? ⟨wo.heap.size, 1, none⟩ = some (.int .i64 kd) ∧ V.cell? ⟨wo.heap.size, 2, none⟩ = some (.string f) ∧ V.cell? ⟨wo.heap.size, 3, none⟩ = some (.int .i64 bg) ∧ V.cell? ⟨wo.heap.size, 4, none⟩ = some (.int .u64 nn) ∧ V.cell? ⟨wo.heap.size, 5, none⟩ = some (.int .i64 ct)) ∧ V.cell? ⟨gg, 1, none⟩ = some (.pointer (some ⟨r 1, 0, none⟩)) ∧ V.cell? ⟨hh, 1, none⟩ = some (.pointer (some ⟨m 1, 0, none⟩))) := fun V hf => by
              obtain ⟨d0, d1, d2, d3, d4, d5⟩ := HBX.out.fr hf (fun h => h)
              exact ⟨⟨d0, d1, d2, d3, d4, d5⟩, (HT8.out.quiet hf).cg (by omega), (HT8.out.quiet hf).ch (by omega)⟩
            have gd0 : decide ((0 : Int) ≤ 1) = true := rfl
            have gd3 : decide ((1 : Int) < 3) = true := rfl
            clear hBo
            go_upto_region 19 with (fail)
            try rw [hW8]
            clear hW8 k0 k1 k2 k3 k4 k5
            refine wp_region_held_drew (S := fun V => (V.cell? ⟨wo.heap.size, 0, none⟩ = some (.int .i64 1) ∧ V.cell? ⟨wo.heap.size, 1, none⟩ = some (.int .i64 kd) ∧ V.cell? ⟨wo.heap.size, 2, none⟩ = some (.string f) ∧ V.cell? ⟨wo.heap.size, 3, none⟩ = some (.int .i64 bg) ∧ V.cell? ⟨wo.heap.size, 4, none⟩ = some (.int .u64 nn) ∧ V.cell? ⟨wo.heap.size, 5, none⟩ = some (.int .i64 ct)) ∧ V.cell? ⟨gg, 1, none⟩ = some (.pointer (some ⟨r 1, 0, none⟩)) ∧ V.cell? ⟨hh, 1, none⟩ = some (.pointer (some ⟨m 1, 0, none⟩))) (by kernel_rfl) ?_ (fun hHeld => ?_)
            · exact HS.out _ (Fr.drew _ _)
            refine takeH (i := 0) (d := 76) (v := ?vp10) rfl (by kernel_rfl) (by kernel_rfl) (by kernel_rfl) (by kernel_rfl) (fun _ _ _ h => h) (Or.inl ⟨by kernel_rfl, ?hyp10⟩) hHeld ?restp10
            case hyp10 =>
              intro w hSw
              try dsimp only at hSw
              first | (go_simp; done) | (go_simp; with_reducible rfl)
            try simp only [Act.put, List.setIfInBounds_toArray, List.set_cons_zero, List.set_cons_succ]
            refine takeH (i := 1) (d := 77) (v := ?vp11) rfl (by kernel_rfl) (by kernel_rfl) (by kernel_rfl) (by kernel_rfl) (fun _ _ _ h => h) (Or.inl ⟨by kernel_rfl, ?hyp11⟩) hHeld ?restp11
            case hyp11 =>
              intro w hSw
              try dsimp only at hSw
              first | (go_simp; done) | (go_simp; with_reducible rfl)
            try simp only [Act.put, List.setIfInBounds_toArray, List.set_cons_zero, List.set_cons_succ]
            refine takeH (i := 2) (d := 78) (v := ?vp12) rfl (by kernel_rfl) (by kernel_rfl) (by kernel_rfl) (by kernel_rfl) (fun _ _ _ h => h) (Or.inl ⟨by kernel_rfl, ?hyp12⟩) hHeld ?restp12
            case hyp12 =>
              intro w hSw
              try dsimp only at hSw
              first | (go_simp; done) | (go_simp; with_reducible rfl)
            try simp only [Act.put, List.setIfInBounds_toArray, List.set_cons_zero, List.set_cons_succ]
            refine takeH (i := 3) (d := 79) (v := ?vp13) rfl (by kernel_rfl) (by kernel_rfl) (by kernel_rfl) (by kernel_rfl) (fun _ _ _ h => h) (Or.inl ⟨by kernel_rfl, ?hyp13⟩) hHeld ?restp13
            case hyp13 =>
              intro w hSw
              try dsimp only at hSw
              first | (go_simp; done) | (go_simp; with_reducible rfl)
            try simp only [Act.put, List.setIfInBounds_toArray, List.set_cons_zero, List.set_cons_succ]
            refine takeH (i := 4) (d := 80) (v := ?vp14) rfl (by kernel_rfl) (by kernel_rfl) (by kernel_rfl) (by kernel_rfl) (fun _ _ _ h => h) (Or.inl ⟨by kernel_rfl, ?hyp14⟩) hHeld ?restp14
            case hyp14 =>
              intro w hSw
              try dsimp only at hSw
              first | (go_simp; done) | (go_simp; with_reducible rfl)
            try simp only [Act.put, List.setIfInBounds_toArray, List.set_cons_zero, List.set_cons_succ]
            refine takeH (i := 5) (d := 81) (v := ?vp15) rfl (by kernel_rfl) (by kernel_rfl) (by kernel_rfl) (by kernel_rfl) (fun _ _ _ h => h) (Or.inl ⟨by kernel_rfl, ?hyp15⟩) hHeld ?restp15
            case hyp15 =>
              intro w hSw
              try dsimp only at hSw
              first | (go_simp; done) | (go_simp; with_reducible rfl)
            try simp only [Act.put, List.setIfInBounds_toArray, List.set_cons_zero, List.set_cons_succ]
            refine takeH (i := 6) (d := 82) (v := ?vp16) rfl (by kernel_rfl) (by kernel_rfl) (by kernel_rfl) (by kernel_rfl) (fun _ _ _ h => h) (Or.inl ⟨by kernel_rfl, ?hyp16⟩) hHeld ?restp16
            case hyp16 =>
              intro w hSw
              try dsimp only at hSw
              first | (go_simp; done) | (go_simp; with_reducible rfl)
            try simp only [Act.put, List.setIfInBounds_toArray, List.set_cons_zero, List.set_cons_succ]
            refine takeH (i := 7) (d := 83) (v := ?vp17) rfl (by kernel_rfl) (by kernel_rfl) (by kernel_rfl) (by kernel_rfl) (fun _ _ _ h => h) (Or.inl ⟨by kernel_rfl, ?hyp17⟩) hHeld ?restp17
            case hyp17 =>
              intro w hSw
              try dsimp only at hSw
              first | (go_simp; done) | (go_simp; with_reducible rfl)
            try simp only [Act.put, List.setIfInBounds_toArray, List.set_cons_zero, List.set_cons_succ]
            refine takeH (i := 8) (d := 84) (v := ?vp18) rfl (by kernel_rfl) (by kernel_rfl) (by kernel_rfl) (by kernel_rfl) (fun _ _ _ h => h) (Or.inl ⟨by kernel_rfl, ?hyp18⟩) hHeld ?restp18
            case hyp18 =>
              intro w hSw
              try dsimp only at hSw
              first | (go_simp; done) | (go_simp; with_reducible rfl)
            try simp only [Act.put, List.setIfInBounds_toArray, List.set_cons_zero, List.set_cons_succ]
            clear d0 d1 d2 d3 d4 d5
            have HPL := Lib.hid (plays_any (HBO.out.quiet (Fr.drew _ W8)) 1 kd f bg n ct HBG.out HCT.out HFZ.out)
            rw [HN9.out] at HPL
            refine wpAnyH_ready (rs := [9]) (by kernel_rfl) (by simp) ?_
            refine AllReadyH.cons rfl (fun K hK => ?_) AllReadyH.nil
            have HH := Lib.hid hHeld
            clear hHeld
            go_simp
            refine HPL.out.mono ?_
            rintro e x1 ⟨rfl, hbt⟩
            have HBT := Lib.hid hbt
            have HT1 := Lib.hid ((HT8.out.quiet (Fr.drew _ W8)).turn (by omega) hbt)
            clear hbt
            have HB9 : Hid (Bx10 wo.heap.size 1 kd f bg nn ct x1) := by obtain ⟨_, _, hf⟩ := HBT.out; exact HBX.out.fr ((Fr.drew (fun i => i ≠ wo.heap.size) W8).trans hf (fun i hi _ e => by obtain ⟨B, hB⟩ := HT8.out.bo 1 (by omega); have h1 := (HL8.out i hi); omega)) (fun h => h rfl)
            refine hK.out _ _ ?_ (fun hNew => ?_)
            · obtain ⟨F', h3⟩ := HT1.out; obtain ⟨d0, d1, d2, d3, d4, d5⟩ := HB9.out; exact ⟨⟨d0, d1, d2, d3, d4, d5⟩, h3.cg (by omega), h3.ch (by omega)⟩
            clear hK K HH
            have hHeld := hNew
            clear hNew
            try simp only [Act.put, List.setIfInBounds_toArray, List.set_cons_zero, List.set_cons_succ]
            refine takeH (i := 10) (d := 86) (v := ?vp19) rfl (by kernel_rfl) (by kernel_rfl) (by kernel_rfl) (by kernel_rfl) (fun _ _ _ h => h) (Or.inl ⟨by kernel_rfl, ?hyp19⟩) hHeld ?restp19
            case hyp19 =>
              intro w hSw
              try dsimp only at hSw
              first | (go_simp; done) | (go_simp; with_reducible rfl)
            try simp only [Act.put, List.setIfInBounds_toArray, List.set_cons_zero, List.set_cons_succ]
            refine wpAnyH_done (by kernel_rfl) ?_ _
            go_wp2_with fail
            go_roundw
            case rel =>
              obtain ⟨F', h3⟩ := HT1.out
              exact ⟨k + 1, _, _, F', by go_num, by omega, h3⟩
            case measure => simp [intOf]; omega
          · obtain ⟨A, hBo⟩ := HT8.out.bo 2 (by omega)
            have HBO := Lib.hid hBo
            have HL8 : Hid (∀ i, F 2 i → i < wo.heap.size) := fun i hi => by obtain ⟨B, hB⟩ := HT.out.bo 2 (by omega); exact (hB.lts.1 i hi).2
            obtain ⟨d0, d1, d2, d3, d4, d5⟩ := HBX.out
            have HS : Hid (∀ V, Fr (fun _ => False) W8 V → (V.cell? ⟨wo.heap.size, 0, none⟩ = some (.int .i64 2) ∧ V.cell? ⟨wo.heap.size, 1, none⟩ = some (.int .i64 kd) ∧ V.cell? ⟨wo.heap.size, 2, none⟩ = some (.string f) ∧ V.cell? ⟨wo.heap.size, 3, none⟩ = some (.int .i64 bg) ∧ V.cell? ⟨wo.heap.size, 4, none⟩ = some (.int .u64 nn) ∧ V.cell? ⟨wo.heap.size, 5, none⟩ = some (.int .i64 ct)) ∧ V.cell? ⟨gg, 2, none⟩ = some (.pointer (some ⟨r 2, 0, none⟩)) ∧ V.cell? ⟨hh, 2, none⟩ = some (.pointer (some ⟨m 2, 0, none⟩))) := fun V hf => by
              obtain ⟨d0, d1, d2, d3, d4, d5⟩ := HBX.out.fr hf (fun h => h)
              exact ⟨⟨d0, d1, d2, d3, d4, d5⟩, (HT8.out.quiet hf).cg (by omega), (HT8.out.quiet hf).ch (by omega)⟩
            have gd0 : decide ((0 : Int) ≤ 2) = true := rfl
            have gd3 : decide ((2 : Int) < 3) = true := rfl
            clear hBo
            go_upto_region 19 with (fail)
            try rw [hW8]
            clear hW8 k0 k1 k2 k3 k4 k5
            refine wp_region_held_drew (S := fun V => (V.cell? ⟨wo.heap.size, 0, none⟩ = some (.int .i64 2) ∧ V.cell? ⟨wo.heap.size, 1, none⟩ = some (.int .i64 kd) ∧ V.cell? ⟨wo.heap.size, 2, none⟩ = some (.string f) ∧ V.cell? ⟨wo.heap.size, 3, none⟩ = some (.int .i64 bg) ∧ V.cell? ⟨wo.heap.size, 4, none⟩ = some (.int .u64 nn) ∧ V.cell? ⟨wo.heap.size, 5, none⟩ = some (.int .i64 ct)) ∧ V.cell? ⟨gg, 2, none⟩ = some (.pointer (some ⟨r 2, 0, none⟩)) ∧ V.cell? ⟨hh, 2, none⟩ = some (.pointer (some ⟨m 2, 0, none⟩))) (by kernel_rfl) ?_ (fun hHeld => ?_)
            · exact HS.out _ (Fr.drew _ _)
            refine takeH (i := 0) (d := 76) (v := ?vp20) rfl (by kernel_rfl) (by kernel_rfl) (by kernel_rfl) (by kernel_rfl) (fun _ _ _ h => h) (Or.inl ⟨by kernel_rfl, ?hyp20⟩) hHeld ?restp20
            case hyp20 =>
              intro w hSw
              try dsimp only at hSw
              first | (go_simp; done) | (go_simp; with_reducible rfl)
            try simp only [Act.put, List.setIfInBounds_toArray, List.set_cons_zero, List.set_cons_succ]
            refine takeH (i := 1) (d := 77) (v := ?vp21) rfl (by kernel_rfl) (by kernel_rfl) (by kernel_rfl) (by kernel_rfl) (fun _ _ _ h => h) (Or.inl ⟨by kernel_rfl, ?hyp21⟩) hHeld ?restp21
            case hyp21 =>
              intro w hSw
              try dsimp only at hSw
              first | (go_simp; done) | (go_simp; with_reducible rfl)
            try simp only [Act.put, List.setIfInBounds_toArray, List.set_cons_zero, List.set_cons_succ]
            refine takeH (i := 2) (d := 78) (v := ?vp22) rfl (by kernel_rfl) (by kernel_rfl) (by kernel_rfl) (by kernel_rfl) (fun _ _ _ h => h) (Or.inl ⟨by kernel_rfl, ?hyp22⟩) hHeld ?restp22
            case hyp22 =>
              intro w hSw
              try dsimp only at hSw
              first | (go_simp; done) | (go_simp; with_reducible rfl)
            try simp only [Act.put, List.setIfInBounds_toArray, List.set_cons_zero, List.set_cons_succ]
            refine takeH (i := 3) (d := 79) (v := ?vp23) rfl (by kernel_rfl) (by kernel_rfl) (by kernel_rfl) (by kernel_rfl) (fun _ _ _ h => h) (Or.inl ⟨by kernel_rfl, ?hyp23⟩) hHeld ?restp23
            case hyp23 =>
              intro w hSw
              try dsimp only at hSw
              first | (go_simp; done) | (go_simp; with_reducible rfl)
            try simp only [Act.put, List.setIfInBounds_toArray, List.set_cons_zero, List.set_cons_succ]
            refine takeH (i := 4) (d := 80) (v := ?vp24) rfl (by kernel_rfl) (by kernel_rfl) (by kernel_rfl) (by kernel_rfl) (fun _ _ _ h => h) (Or.inl ⟨by kernel_rfl, ?hyp24⟩) hHeld ?restp24
            case hyp24 =>
              intro w hSw
              try dsimp only at hSw
              first | (go_simp; done) | (go_simp; with_reducible rfl)
            try simp only [Act.put, List.setIfInBounds_toArray, List.set_cons_zero, List.set_cons_succ]
            refine takeH (i := 5) (d := 81) (v := ?vp25) rfl (by kernel_rfl) (by kernel_rfl) (by kernel_rfl) (by kernel_rfl) (fun _ _ _ h => h) (Or.inl ⟨by kernel_rfl, ?hyp25⟩) hHeld ?restp25
            case hyp25 =>
              intro w hSw
              try dsimp only at hSw
              first | (go_simp; done) | (go_simp; with_reducible rfl)
            try simp only [Act.put, List.setIfInBounds_toArray, List.set_cons_zero, List.set_cons_succ]
            refine takeH (i := 6) (d := 82) (v := ?vp26) rfl (by kernel_rfl) (by kernel_rfl) (by kernel_rfl) (by kernel_rfl) (fun _ _ _ h => h) (Or.inl ⟨by kernel_rfl, ?hyp26⟩) hHeld ?restp26
            case hyp26 =>
              intro w hSw
              try dsimp only at hSw
              first | (go_simp; done) | (go_simp; with_reducible rfl)
            try simp only [Act.put, List.setIfInBounds_toArray, List.set_cons_zero, List.set_cons_succ]
            refine takeH (i := 7) (d := 83) (v := ?vp27) rfl (by kernel_rfl) (by kernel_rfl) (by kernel_rfl) (by kernel_rfl) (fun _ _ _ h => h) (Or.inl ⟨by kernel_rfl, ?hyp27⟩) hHeld ?restp27
            case hyp27 =>
              intro w hSw
              try dsimp only at hSw
              first | (go_simp; done) | (go_simp; with_reducible rfl)
            try simp only [Act.put, List.setIfInBounds_toArray, List.set_cons_zero, List.set_cons_succ]
            refine takeH (i := 8) (d := 84) (v := ?vp28) rfl (by kernel_rfl) (by kernel_rfl) (by kernel_rfl) (by kernel_rfl) (fun _ _ _ h => h) (Or.inl ⟨by kernel_rfl, ?hyp28⟩) hHeld ?restp28
            case hyp28 =>
              intro w hSw
              try dsimp only at hSw
              first | (go_simp; done) | (go_simp; with_reducible rfl)
            try simp only [Act.put, List.setIfInBounds_toArray, List.set_cons_zero, List.set_cons_succ]
            clear d0 d1 d2 d3 d4 d5
            have HPL := Lib.hid (plays_any (HBO.out.quiet (Fr.drew _ W8)) 2 kd f bg n ct HBG.out HCT.out HFZ.out)
            rw [HN9.out] at HPL
            refine wpAnyH_ready (rs := [9]) (by kernel_rfl) (by simp) ?_
            refine AllReadyH.cons rfl (fun K hK => ?_) AllReadyH.nil
            have HH := Lib.hid hHeld
            clear hHeld
            go_simp
            refine HPL.out.mono ?_
            rintro e x1 ⟨rfl, hbt⟩
            have HBT := Lib.hid hbt
            have HT1 := Lib.hid ((HT8.out.quiet (Fr.drew _ W8)).turn (by omega) hbt)
            clear hbt
            have HB9 : Hid (Bx10 wo.heap.size 2 kd f bg nn ct x1) := by obtain ⟨_, _, hf⟩ := HBT.out; exact HBX.out.fr ((Fr.drew (fun i => i ≠ wo.heap.size) W8).trans hf (fun i hi _ e => by obtain ⟨B, hB⟩ := HT8.out.bo 2 (by omega); have h1 := (HL8.out i hi); omega)) (fun h => h rfl)
            refine hK.out _ _ ?_ (fun hNew => ?_)
            · obtain ⟨F', h3⟩ := HT1.out; obtain ⟨d0, d1, d2, d3, d4, d5⟩ := HB9.out; exact ⟨⟨d0, d1, d2, d3, d4, d5⟩, h3.cg (by omega), h3.ch (by omega)⟩
            clear hK K HH
            have hHeld := hNew
            clear hNew
            try simp only [Act.put, List.setIfInBounds_toArray, List.set_cons_zero, List.set_cons_succ]
            refine takeH (i := 10) (d := 86) (v := ?vp29) rfl (by kernel_rfl) (by kernel_rfl) (by kernel_rfl) (by kernel_rfl) (fun _ _ _ h => h) (Or.inl ⟨by kernel_rfl, ?hyp29⟩) hHeld ?restp29
            case hyp29 =>
              intro w hSw
              try dsimp only at hSw
              first | (go_simp; done) | (go_simp; with_reducible rfl)
            try simp only [Act.put, List.setIfInBounds_toArray, List.set_cons_zero, List.set_cons_succ]
            refine wpAnyH_done (by kernel_rfl) ?_ _
            go_wp2_with fail
            go_roundw
            case rel =>
              obtain ⟨F', h3⟩ := HT1.out
              exact ⟨k + 1, _, _, F', by go_num, by omega, h3⟩
            case measure => simp [intOf]; omega
        · by_cases hlow : 0 ≤ who
          · have gd0 : decide (0 ≤ who) = true := decide_eq_true hlow
            have gd3 : decide (who < 3) = false := decide_eq_false (by omega)
            obtain ⟨d0, d1, d2, d3, d4, d5⟩ := HBX.out
            go_upto_if 51 with (fail)
            try rw [hW8]
            clear hW8 k0 k1 k2 k3 k4 k5
            go_wp2_with fail
            refine (floCopy_nil W8).mono ?_
            rintro e x1 ⟨rc, dc, rfl, hc, hb1⟩
            have HF1 : Hid (Fr (fun _ => False) W8 x1) := fr_bel0 hb1
            have HC := Lib.hid hc
            clear hc hb1 d0 d1 d2 d3 d4 d5
            obtain ⟨d0, d1, d2, d3, d4, d5⟩ := HBX.out.fr HF1.out (fun h => h)
            have HPN := Lib.hid (plays_nil x1 who kd f bg n ct HBG.out HFZ.out)
            rw [HN9.out] at HPN
            go_wp2_with fail
            refine HPN.out.mono ?_
            rintro e x2 ⟨rfl, hf2⟩
            have HF2 := Lib.hid hf2
            clear hf2 d0 d1 d2 d3 d4 d5
            go_wp2_with fail
            refine (rfCopy_nil x2).mono ?_
            rintro e x3 ⟨mc, pc, Fdc, Xc, rfl, hm, hf3⟩
            have HF13 : Hid (Fr (fun _ => False) x1 x3) := HF2.out.trans hf3 (fun _ h _ => h)
            have HF3 : Hid (Fr (fun _ => False) W8 x3) := HF1.out.trans HF13.out (fun _ h _ => h)
            have HBO : Hid (Bo W8 x3 (iv W8.heap.size x3.heap.size) rc mc []) := by
              have z1 := HF1.out.size
              have z2 := HF2.out.size
              have z3 := hf3.size
              exact ⟨iv W8.heap.size x1.heap.size, iv x2.heap.size x3.heap.size, dc, ⟨0, 0, [], 0, [], 0, 0⟩, [], fun i hi => ⟨hi.1, by have := hi.2; omega⟩, fun i hi => ⟨by have := hi.1; omega, hi.2⟩, fun i hi hi2 => (by have := hi.2; have := hi2.1; omega), HC.out.quiet HF13.out, ⟨⟨pc, Fdc, Xc, _, hm.base (by omega)⟩, List.Pairwise.nil, List.Perm.nil, by simp, by simp, by simp [nmM], by simp [nmM]⟩, fun i hi => hi, HF3.out.below (Nat.le_refl _) (fun _ h => h.elim), by unfold Lens; simp⟩
            have HST := Lib.hid (stands_any HBO.out)
            clear hm hf3
            go_wp2_with fail
            refine HST.out.mono ?_
            rintro e x4 ⟨rfl, hf4⟩
            have HT4 := Lib.hid (HT8.out.quiet (HF3.out.trans hf4 (fun _ h _ => h)))
            clear hf4
            go_wp2_with fail
            go_roundw
            case rel => exact ⟨k + 1, r, m, F, by go_num, by omega, HT4⟩
            case measure => simp [intOf]; omega
          · have gd0 : decide (0 ≤ who) = false := decide_eq_false hlow
            obtain ⟨d0, d1, d2, d3, d4, d5⟩ := HBX.out
            go_upto_if 51 with (fail)
            try rw [hW8]
            clear hW8 k0 k1 k2 k3 k4 k5
            go_wp2_with fail
            refine (floCopy_nil W8).mono ?_
            rintro e x1 ⟨rc, dc, rfl, hc, hb1⟩
            have HF1 : Hid (Fr (fun _ => False) W8 x1) := fr_bel0 hb1
            have HC := Lib.hid hc
            clear hc hb1 d0 d1 d2 d3 d4 d5
            obtain ⟨d0, d1, d2, d3, d4, d5⟩ := HBX.out.fr HF1.out (fun h => h)
            have HPN := Lib.hid (plays_nil x1 who kd f bg n ct HBG.out HFZ.out)
            rw [HN9.out] at HPN
            go_wp2_with fail
            refine HPN.out.mono ?_
            rintro e x2 ⟨rfl, hf2⟩
            have HF2 := Lib.hid hf2
            clear hf2 d0 d1 d2 d3 d4 d5
            go_wp2_with fail
            refine (rfCopy_nil x2).mono ?_
            rintro e x3 ⟨mc, pc, Fdc, Xc, rfl, hm, hf3⟩
            have HF13 : Hid (Fr (fun _ => False) x1 x3) := HF2.out.trans hf3 (fun _ h _ => h)
            have HF3 : Hid (Fr (fun _ => False) W8 x3) := HF1.out.trans HF13.out (fun _ h _ => h)
            have HBO : Hid (Bo W8 x3 (iv W8.heap.size x3.heap.size) rc mc []) := by
              have z1 := HF1.out.size
              have z2 := HF2.out.size
              have z3 := hf3.size
              exact ⟨iv W8.heap.size x1.heap.size, iv x2.heap.size x3.heap.size, dc, ⟨0, 0, [], 0, [], 0, 0⟩, [], fun i hi => ⟨hi.1, by have := hi.2; omega⟩, fun i hi => ⟨by have := hi.1; omega, hi.2⟩, fun i hi hi2 => (by have := hi.2; have := hi2.1; omega), HC.out.quiet HF13.out, ⟨⟨pc, Fdc, Xc, _, hm.base (by omega)⟩, List.Pairwise.nil, List.Perm.nil, by simp, by simp, by simp [nmM], by simp [nmM]⟩, fun i hi => hi, HF3.out.below (Nat.le_refl _) (fun _ h => h.elim), by unfold Lens; simp⟩
            have HST := Lib.hid (stands_any HBO.out)
            clear hm hf3
            go_wp2_with fail
            refine HST.out.mono ?_
            rintro e x4 ⟨rfl, hf4⟩
            have HT4 := Lib.hid (HT8.out.quiet (HF3.out.trans hf4 (fun _ h _ => h)))
            clear hf4
            go_wp2_with fail
            go_roundw
            case rel => exact ⟨k + 1, r, m, F, by go_num, by omega, HT4⟩
            case measure => simp [intOf]; omega
    · obtain rfl : k = l.length := by omega
      go_wp2_with fail
      go_loopw [106] (fun i wr => (i = .int .i64 0 ∨ i = .int .i64 1 ∨ i = .int .i64 2 ∨ i = .int .i64 3) ∧ Hid (Tri3 W0 wr gg hh r m F)) (fun i _ => 3 - (intOf i).toNat)
      case atStart => exact ⟨.inl rfl, HT⟩
      case round =>
        obtain ⟨hj, HTQ⟩ := hrel
        obtain ⟨wq, rfl⟩ : ∃ x, x = wr := ⟨_, rfl⟩
        clear HT
        rcases hj with rfl | rfl | rfl | rfl
        · obtain ⟨A, hBo⟩ := HTQ.out.bo 0 (by omega)
          have HBO := Lib.hid hBo
          have HS : Hid (∀ V, Fr (fun _ => False) wq V → V.cell? ⟨gg, 0, none⟩ = some (.pointer (some ⟨r 0, 0, none⟩)) ∧ V.cell? ⟨hh, 0, none⟩ = some (.pointer (some ⟨m 0, 0, none⟩))) := fun V hf => ⟨(HTQ.out.quiet hf).cg (by omega), (HTQ.out.quiet hf).ch (by omega)⟩
          have HST := Lib.hid (stands_any (hBo.quiet (Fr.drew _ wq)))
          have e0 : wd 0 = 0 := rfl
          have hsc : ∀ V, Fr (fun _ => False) wq V → Calls Try.prog 40 #[.pointer (some ⟨r 0, 0, none⟩), .pointer (some ⟨m 0, 0, none⟩), .int .u64 0, .int .i64 3] V fun e w' => e = .returned (.bool true) ∧ Fr (fun _ => False) V w' := fun V hf => by
            have h1 := scans_any (HBO.out.quiet hf) 0 3 (by unfold InI; omega)
            rw [e0] at h1
            exact h1
          have HSC := Lib.hid hsc
          clear hBo e0 hsc
          go_upto_region 28 with (fail)
          refine wp_region_held_drew (S := fun V => V.cell? ⟨gg, 0, none⟩ = some (.pointer (some ⟨r 0, 0, none⟩)) ∧ V.cell? ⟨hh, 0, none⟩ = some (.pointer (some ⟨m 0, 0, none⟩))) (by kernel_rfl) ?_ (fun hHeld => ?_)
          · exact HS.out _ (Fr.drew _ _)
          refine takeH (i := 0) (d := 109) (v := ?ve00) rfl (by kernel_rfl) (by kernel_rfl) (by kernel_rfl) (by kernel_rfl) (fun _ _ _ h => h) (Or.inl ⟨by kernel_rfl, ?hye00⟩) hHeld ?reste00
          case hye00 =>
            intro w hSw
            try dsimp only at hSw
            first | (go_simp; done) | (go_simp; with_reducible rfl)
          try simp only [Act.put, List.setIfInBounds_toArray, List.set_cons_zero, List.set_cons_succ]
          refine takeH (i := 1) (d := 110) (v := ?ve01) rfl (by kernel_rfl) (by kernel_rfl) (by kernel_rfl) (by kernel_rfl) (fun _ _ _ h => h) (Or.inl ⟨by kernel_rfl, ?hye01⟩) hHeld ?reste01
          case hye01 =>
            intro w hSw
            try dsimp only at hSw
            first | (go_simp; done) | (go_simp; with_reducible rfl)
          try simp only [Act.put, List.setIfInBounds_toArray, List.set_cons_zero, List.set_cons_succ]
          refine takeH (i := 2) (d := 111) (v := ?ve02) rfl (by kernel_rfl) (by kernel_rfl) (by kernel_rfl) (by kernel_rfl) (fun _ _ _ h => h) (Or.inl ⟨by kernel_rfl, ?hye02⟩) hHeld ?reste02
          case hye02 =>
            intro w hSw
            try dsimp only at hSw
            first | (go_simp; done) | (go_simp; with_reducible rfl)
          try simp only [Act.put, List.setIfInBounds_toArray, List.set_cons_zero, List.set_cons_succ]
          refine takeH (i := 3) (d := 112) (v := ?ve03) rfl (by kernel_rfl) (by kernel_rfl) (by kernel_rfl) (by kernel_rfl) (fun _ _ _ h => h) (Or.inl ⟨by kernel_rfl, ?hye03⟩) hHeld ?reste03
          case hye03 =>
            intro w hSw
            try dsimp only at hSw
            first | (go_simp; done) | (go_simp; with_reducible rfl)
          try simp only [Act.put, List.setIfInBounds_toArray, List.set_cons_zero, List.set_cons_succ]
          refine takeH (i := 4) (d := 113) (v := ?ve04) rfl (by kernel_rfl) (by kernel_rfl) (by kernel_rfl) (by kernel_rfl) (fun _ _ _ h => h) (Or.inl ⟨by kernel_rfl, ?hye04⟩) hHeld ?reste04
          case hye04 =>
            intro w hSw
            try dsimp only at hSw
            first | (go_simp; done) | (go_simp; with_reducible rfl)
          try simp only [Act.put, List.setIfInBounds_toArray, List.set_cons_zero, List.set_cons_succ]
          refine takeH (i := 5) (d := 114) (v := ?ve05) rfl (by kernel_rfl) (by kernel_rfl) (by kernel_rfl) (by kernel_rfl) (fun _ _ _ h => h) (Or.inl ⟨by kernel_rfl, ?hye05⟩) hHeld ?reste05
          case hye05 =>
            intro w hSw
            try dsimp only at hSw
            first | (go_simp; done) | (go_simp; with_reducible rfl)
          try simp only [Act.put, List.setIfInBounds_toArray, List.set_cons_zero, List.set_cons_succ]
          refine wpAnyH_ready (rs := [6]) (by kernel_rfl) (by simp) ?_
          refine AllReadyH.cons rfl (fun K hK => ?_) AllReadyH.nil
          have HH := Lib.hid hHeld
          clear hHeld
          go_simp
          refine HST.out.mono ?_
          rintro e x1 ⟨rfl, hf1⟩
          have HF1 := Lib.hid ((Fr.drew (fun _ => False) wq).trans hf1 (fun _ h _ => h))
          clear hf1
          refine hK.out _ _ ?_ (fun hNew => ?_)
          · exact HS.out _ HF1.out
          clear hK K HH
          have hHeld := hNew
          clear hNew
          try simp only [Act.put, List.setIfInBounds_toArray, List.set_cons_zero, List.set_cons_succ]
          refine takeH (i := 7) (d := 116) (v := ?ve06) rfl (by kernel_rfl) (by kernel_rfl) (by kernel_rfl) (by kernel_rfl) (fun _ _ _ h => h) (Or.inl ⟨by kernel_rfl, ?hye06⟩) hHeld ?reste06
          case hye06 =>
            intro w hSw
            try dsimp only at hSw
            first | (go_simp; done) | (go_simp; with_reducible rfl)
          try simp only [Act.put, List.setIfInBounds_toArray, List.set_cons_zero, List.set_cons_succ]
          refine takeH (i := 8) (d := 117) (v := ?ve07) rfl (by kernel_rfl) (by kernel_rfl) (by kernel_rfl) (by kernel_rfl) (fun _ _ _ h => h) (Or.inl ⟨by kernel_rfl, ?hye07⟩) hHeld ?reste07
          case hye07 =>
            intro w hSw
            try dsimp only at hSw
            first | (go_simp; done) | (go_simp; with_reducible rfl)
          try simp only [Act.put, List.setIfInBounds_toArray, List.set_cons_zero, List.set_cons_succ]
          refine takeH (i := 9) (d := 118) (v := ?ve08) rfl (by kernel_rfl) (by kernel_rfl) (by kernel_rfl) (by kernel_rfl) (fun _ _ _ h => h) (Or.inl ⟨by kernel_rfl, ?hye08⟩) hHeld ?reste08
          case hye08 =>
            intro w hSw
            try dsimp only at hSw
            first | (go_simp; done) | (go_simp; with_reducible rfl)
          try simp only [Act.put, List.setIfInBounds_toArray, List.set_cons_zero, List.set_cons_succ]
          refine takeH (i := 10) (d := 119) (v := ?ve09) rfl (by kernel_rfl) (by kernel_rfl) (by kernel_rfl) (by kernel_rfl) (fun _ _ _ h => h) (Or.inl ⟨by kernel_rfl, ?hye09⟩) hHeld ?reste09
          case hye09 =>
            intro w hSw
            try dsimp only at hSw
            first | (go_simp; done) | (go_simp; with_reducible rfl)
          try simp only [Act.put, List.setIfInBounds_toArray, List.set_cons_zero, List.set_cons_succ]
          refine takeH (i := 11) (d := 120) (v := ?ve010) rfl (by kernel_rfl) (by kernel_rfl) (by kernel_rfl) (by kernel_rfl) (fun _ _ _ h => h) (Or.inl ⟨by kernel_rfl, ?hye010⟩) hHeld ?reste010
          case hye010 =>
            intro w hSw
            try dsimp only at hSw
            first | (go_simp; done) | (go_simp; with_reducible rfl)
          try simp only [Act.put, List.setIfInBounds_toArray, List.set_cons_zero, List.set_cons_succ]
          refine takeH (i := 12) (d := 121) (v := ?ve011) rfl (by kernel_rfl) (by kernel_rfl) (by kernel_rfl) (by kernel_rfl) (fun _ _ _ h => h) (Or.inl ⟨by kernel_rfl, ?hye011⟩) hHeld ?reste011
          case hye011 =>
            intro w hSw
            try dsimp only at hSw
            first | (go_simp; done) | (go_simp; with_reducible rfl)
          try simp only [Act.put, List.setIfInBounds_toArray, List.set_cons_zero, List.set_cons_succ]
          refine takeH (i := 13) (d := 122) (v := ?ve012) rfl (by kernel_rfl) (by kernel_rfl) (by kernel_rfl) (by kernel_rfl) (fun _ _ _ h => h) (Or.inl ⟨by kernel_rfl, ?hye012⟩) hHeld ?reste012
          case hye012 =>
            intro w hSw
            try dsimp only at hSw
            first | (go_simp; done) | (go_simp; with_reducible rfl)
          try simp only [Act.put, List.setIfInBounds_toArray, List.set_cons_zero, List.set_cons_succ]
          refine takeH (i := 14) (d := 123) (v := ?ve013) rfl (by kernel_rfl) (by kernel_rfl) (by kernel_rfl) (by kernel_rfl) (fun _ _ _ h => h) (Or.inl ⟨by kernel_rfl, ?hye013⟩) hHeld ?reste013
          case hye013 =>
            intro w hSw
            try dsimp only at hSw
            first | (go_simp; done) | (go_simp; with_reducible rfl)
          try simp only [Act.put, List.setIfInBounds_toArray, List.set_cons_zero, List.set_cons_succ]
          refine wpAnyH_ready (rs := [15]) (by kernel_rfl) (by simp) ?_
          refine AllReadyH.cons rfl (fun K hK => ?_) AllReadyH.nil
          have HH := Lib.hid hHeld
          clear hHeld
          go_simp
          refine (HSC.out _ HF1.out).mono ?_
          rintro e x2 ⟨rfl, hf2⟩
          have HF2 := Lib.hid (HF1.out.trans hf2 (fun _ h _ => h))
          clear hf2
          refine hK.out _ _ ?_ (fun hNew => ?_)
          · exact HS.out _ HF2.out
          clear hK K HH
          have hHeld := hNew
          clear hNew
          try simp only [Act.put, List.setIfInBounds_toArray, List.set_cons_zero, List.set_cons_succ]
          refine takeH (i := 16) (d := 125) (v := ?ve014) rfl (by kernel_rfl) (by kernel_rfl) (by kernel_rfl) (by kernel_rfl) (fun _ _ _ h => h) (Or.inl ⟨by kernel_rfl, ?hye014⟩) hHeld ?reste014
          case hye014 =>
            intro w hSw
            try dsimp only at hSw
            first | (go_simp; done) | (go_simp; with_reducible rfl)
          try simp only [Act.put, List.setIfInBounds_toArray, List.set_cons_zero, List.set_cons_succ]
          refine takeH (i := 17) (d := 126) (v := ?ve015) rfl (by kernel_rfl) (by kernel_rfl) (by kernel_rfl) (by kernel_rfl) (fun _ _ _ h => h) (Or.inl ⟨by kernel_rfl, ?hye015⟩) hHeld ?reste015
          case hye015 =>
            intro w hSw
            try dsimp only at hSw
            first | (go_simp; done) | (go_simp; with_reducible rfl)
          try simp only [Act.put, List.setIfInBounds_toArray, List.set_cons_zero, List.set_cons_succ]
          refine wpAnyH_done (by kernel_rfl) ?_ _
          go_wp2_with fail
          go_roundw
          case rel => exact ⟨.inr (.inl rfl), HTQ.out.quiet HF2.out⟩
          case measure => simp [intOf]
        · obtain ⟨A, hBo⟩ := HTQ.out.bo 1 (by omega)
          have HBO := Lib.hid hBo
          have HS : Hid (∀ V, Fr (fun _ => False) wq V → V.cell? ⟨gg, 1, none⟩ = some (.pointer (some ⟨r 1, 0, none⟩)) ∧ V.cell? ⟨hh, 1, none⟩ = some (.pointer (some ⟨m 1, 0, none⟩))) := fun V hf => ⟨(HTQ.out.quiet hf).cg (by omega), (HTQ.out.quiet hf).ch (by omega)⟩
          have HST := Lib.hid (stands_any (hBo.quiet (Fr.drew _ wq)))
          have e0 : wd 0 = 0 := rfl
          have hsc : ∀ V, Fr (fun _ => False) wq V → Calls Try.prog 40 #[.pointer (some ⟨r 1, 0, none⟩), .pointer (some ⟨m 1, 0, none⟩), .int .u64 0, .int .i64 3] V fun e w' => e = .returned (.bool true) ∧ Fr (fun _ => False) V w' := fun V hf => by
            have h1 := scans_any (HBO.out.quiet hf) 0 3 (by unfold InI; omega)
            rw [e0] at h1
            exact h1
          have HSC := Lib.hid hsc
          clear hBo e0 hsc
          go_upto_region 28 with (fail)
          refine wp_region_held_drew (S := fun V => V.cell? ⟨gg, 1, none⟩ = some (.pointer (some ⟨r 1, 0, none⟩)) ∧ V.cell? ⟨hh, 1, none⟩ = some (.pointer (some ⟨m 1, 0, none⟩))) (by kernel_rfl) ?_ (fun hHeld => ?_)
          · exact HS.out _ (Fr.drew _ _)
          refine takeH (i := 0) (d := 109) (v := ?ve10) rfl (by kernel_rfl) (by kernel_rfl) (by kernel_rfl) (by kernel_rfl) (fun _ _ _ h => h) (Or.inl ⟨by kernel_rfl, ?hye10⟩) hHeld ?reste10
          case hye10 =>
            intro w hSw
            try dsimp only at hSw
            first | (go_simp; done) | (go_simp; with_reducible rfl)
          try simp only [Act.put, List.setIfInBounds_toArray, List.set_cons_zero, List.set_cons_succ]
          refine takeH (i := 1) (d := 110) (v := ?ve11) rfl (by kernel_rfl) (by kernel_rfl) (by kernel_rfl) (by kernel_rfl) (fun _ _ _ h => h) (Or.inl ⟨by kernel_rfl, ?hye11⟩) hHeld ?reste11
          case hye11 =>
            intro w hSw
            try dsimp only at hSw
            first | (go_simp; done) | (go_simp; with_reducible rfl)
          try simp only [Act.put, List.setIfInBounds_toArray, List.set_cons_zero, List.set_cons_succ]
          refine takeH (i := 2) (d := 111) (v := ?ve12) rfl (by kernel_rfl) (by kernel_rfl) (by kernel_rfl) (by kernel_rfl) (fun _ _ _ h => h) (Or.inl ⟨by kernel_rfl, ?hye12⟩) hHeld ?reste12
          case hye12 =>
            intro w hSw
            try dsimp only at hSw
            first | (go_simp; done) | (go_simp; with_reducible rfl)
          try simp only [Act.put, List.setIfInBounds_toArray, List.set_cons_zero, List.set_cons_succ]
          refine takeH (i := 3) (d := 112) (v := ?ve13) rfl (by kernel_rfl) (by kernel_rfl) (by kernel_rfl) (by kernel_rfl) (fun _ _ _ h => h) (Or.inl ⟨by kernel_rfl, ?hye13⟩) hHeld ?reste13
          case hye13 =>
            intro w hSw
            try dsimp only at hSw
            first | (go_simp; done) | (go_simp; with_reducible rfl)
          try simp only [Act.put, List.setIfInBounds_toArray, List.set_cons_zero, List.set_cons_succ]
          refine takeH (i := 4) (d := 113) (v := ?ve14) rfl (by kernel_rfl) (by kernel_rfl) (by kernel_rfl) (by kernel_rfl) (fun _ _ _ h => h) (Or.inl ⟨by kernel_rfl, ?hye14⟩) hHeld ?reste14
          case hye14 =>
            intro w hSw
            try dsimp only at hSw
            first | (go_simp; done) | (go_simp; with_reducible rfl)
          try simp only [Act.put, List.setIfInBounds_toArray, List.set_cons_zero, List.set_cons_succ]
          refine takeH (i := 5) (d := 114) (v := ?ve15) rfl (by kernel_rfl) (by kernel_rfl) (by kernel_rfl) (by kernel_rfl) (fun _ _ _ h => h) (Or.inl ⟨by kernel_rfl, ?hye15⟩) hHeld ?reste15
          case hye15 =>
            intro w hSw
            try dsimp only at hSw
            first | (go_simp; done) | (go_simp; with_reducible rfl)
          try simp only [Act.put, List.setIfInBounds_toArray, List.set_cons_zero, List.set_cons_succ]
          refine wpAnyH_ready (rs := [6]) (by kernel_rfl) (by simp) ?_
          refine AllReadyH.cons rfl (fun K hK => ?_) AllReadyH.nil
          have HH := Lib.hid hHeld
          clear hHeld
          go_simp
          refine HST.out.mono ?_
          rintro e x1 ⟨rfl, hf1⟩
          have HF1 := Lib.hid ((Fr.drew (fun _ => False) wq).trans hf1 (fun _ h _ => h))
          clear hf1
          refine hK.out _ _ ?_ (fun hNew => ?_)
          · exact HS.out _ HF1.out
          clear hK K HH
          have hHeld := hNew
          clear hNew
          try simp only [Act.put, List.setIfInBounds_toArray, List.set_cons_zero, List.set_cons_succ]
          refine takeH (i := 7) (d := 116) (v := ?ve16) rfl (by kernel_rfl) (by kernel_rfl) (by kernel_rfl) (by kernel_rfl) (fun _ _ _ h => h) (Or.inl ⟨by kernel_rfl, ?hye16⟩) hHeld ?reste16
          case hye16 =>
            intro w hSw
            try dsimp only at hSw
            first | (go_simp; done) | (go_simp; with_reducible rfl)
          try simp only [Act.put, List.setIfInBounds_toArray, List.set_cons_zero, List.set_cons_succ]
          refine takeH (i := 8) (d := 117) (v := ?ve17) rfl (by kernel_rfl) (by kernel_rfl) (by kernel_rfl) (by kernel_rfl) (fun _ _ _ h => h) (Or.inl ⟨by kernel_rfl, ?hye17⟩) hHeld ?reste17
          case hye17 =>
            intro w hSw
            try dsimp only at hSw
            first | (go_simp; done) | (go_simp; with_reducible rfl)
          try simp only [Act.put, List.setIfInBounds_toArray, List.set_cons_zero, List.set_cons_succ]
          refine takeH (i := 9) (d := 118) (v := ?ve18) rfl (by kernel_rfl) (by kernel_rfl) (by kernel_rfl) (by kernel_rfl) (fun _ _ _ h => h) (Or.inl ⟨by kernel_rfl, ?hye18⟩) hHeld ?reste18
          case hye18 =>
            intro w hSw
            try dsimp only at hSw
            first | (go_simp; done) | (go_simp; with_reducible rfl)
          try simp only [Act.put, List.setIfInBounds_toArray, List.set_cons_zero, List.set_cons_succ]
          refine takeH (i := 10) (d := 119) (v := ?ve19) rfl (by kernel_rfl) (by kernel_rfl) (by kernel_rfl) (by kernel_rfl) (fun _ _ _ h => h) (Or.inl ⟨by kernel_rfl, ?hye19⟩) hHeld ?reste19
          case hye19 =>
            intro w hSw
            try dsimp only at hSw
            first | (go_simp; done) | (go_simp; with_reducible rfl)
          try simp only [Act.put, List.setIfInBounds_toArray, List.set_cons_zero, List.set_cons_succ]
          refine takeH (i := 11) (d := 120) (v := ?ve110) rfl (by kernel_rfl) (by kernel_rfl) (by kernel_rfl) (by kernel_rfl) (fun _ _ _ h => h) (Or.inl ⟨by kernel_rfl, ?hye110⟩) hHeld ?reste110
          case hye110 =>
            intro w hSw
            try dsimp only at hSw
            first | (go_simp; done) | (go_simp; with_reducible rfl)
          try simp only [Act.put, List.setIfInBounds_toArray, List.set_cons_zero, List.set_cons_succ]
          refine takeH (i := 12) (d := 121) (v := ?ve111) rfl (by kernel_rfl) (by kernel_rfl) (by kernel_rfl) (by kernel_rfl) (fun _ _ _ h => h) (Or.inl ⟨by kernel_rfl, ?hye111⟩) hHeld ?reste111
          case hye111 =>
            intro w hSw
            try dsimp only at hSw
            first | (go_simp; done) | (go_simp; with_reducible rfl)
          try simp only [Act.put, List.setIfInBounds_toArray, List.set_cons_zero, List.set_cons_succ]
          refine takeH (i := 13) (d := 122) (v := ?ve112) rfl (by kernel_rfl) (by kernel_rfl) (by kernel_rfl) (by kernel_rfl) (fun _ _ _ h => h) (Or.inl ⟨by kernel_rfl, ?hye112⟩) hHeld ?reste112
          case hye112 =>
            intro w hSw
            try dsimp only at hSw
            first | (go_simp; done) | (go_simp; with_reducible rfl)
          try simp only [Act.put, List.setIfInBounds_toArray, List.set_cons_zero, List.set_cons_succ]
          refine takeH (i := 14) (d := 123) (v := ?ve113) rfl (by kernel_rfl) (by kernel_rfl) (by kernel_rfl) (by kernel_rfl) (fun _ _ _ h => h) (Or.inl ⟨by kernel_rfl, ?hye113⟩) hHeld ?reste113
          case hye113 =>
            intro w hSw
            try dsimp only at hSw
            first | (go_simp; done) | (go_simp; with_reducible rfl)
          try simp only [Act.put, List.setIfInBounds_toArray, List.set_cons_zero, List.set_cons_succ]
          refine wpAnyH_ready (rs := [15]) (by kernel_rfl) (by simp) ?_
          refine AllReadyH.cons rfl (fun K hK => ?_) AllReadyH.nil
          have HH := Lib.hid hHeld
          clear hHeld
          go_simp
          refine (HSC.out _ HF1.out).mono ?_
          rintro e x2 ⟨rfl, hf2⟩
          have HF2 := Lib.hid (HF1.out.trans hf2 (fun _ h _ => h))
          clear hf2
          refine hK.out _ _ ?_ (fun hNew => ?_)
          · exact HS.out _ HF2.out
          clear hK K HH
          have hHeld := hNew
          clear hNew
          try simp only [Act.put, List.setIfInBounds_toArray, List.set_cons_zero, List.set_cons_succ]
          refine takeH (i := 16) (d := 125) (v := ?ve114) rfl (by kernel_rfl) (by kernel_rfl) (by kernel_rfl) (by kernel_rfl) (fun _ _ _ h => h) (Or.inl ⟨by kernel_rfl, ?hye114⟩) hHeld ?reste114
          case hye114 =>
            intro w hSw
            try dsimp only at hSw
            first | (go_simp; done) | (go_simp; with_reducible rfl)
          try simp only [Act.put, List.setIfInBounds_toArray, List.set_cons_zero, List.set_cons_succ]
          refine takeH (i := 17) (d := 126) (v := ?ve115) rfl (by kernel_rfl) (by kernel_rfl) (by kernel_rfl) (by kernel_rfl) (fun _ _ _ h => h) (Or.inl ⟨by kernel_rfl, ?hye115⟩) hHeld ?reste115
          case hye115 =>
            intro w hSw
            try dsimp only at hSw
            first | (go_simp; done) | (go_simp; with_reducible rfl)
          try simp only [Act.put, List.setIfInBounds_toArray, List.set_cons_zero, List.set_cons_succ]
          refine wpAnyH_done (by kernel_rfl) ?_ _
          go_wp2_with fail
          go_roundw
          case rel => exact ⟨.inr (.inr (.inl rfl)), HTQ.out.quiet HF2.out⟩
          case measure => simp [intOf]
        · obtain ⟨A, hBo⟩ := HTQ.out.bo 2 (by omega)
          have HBO := Lib.hid hBo
          have HS : Hid (∀ V, Fr (fun _ => False) wq V → V.cell? ⟨gg, 2, none⟩ = some (.pointer (some ⟨r 2, 0, none⟩)) ∧ V.cell? ⟨hh, 2, none⟩ = some (.pointer (some ⟨m 2, 0, none⟩))) := fun V hf => ⟨(HTQ.out.quiet hf).cg (by omega), (HTQ.out.quiet hf).ch (by omega)⟩
          have HST := Lib.hid (stands_any (hBo.quiet (Fr.drew _ wq)))
          have e0 : wd 0 = 0 := rfl
          have hsc : ∀ V, Fr (fun _ => False) wq V → Calls Try.prog 40 #[.pointer (some ⟨r 2, 0, none⟩), .pointer (some ⟨m 2, 0, none⟩), .int .u64 0, .int .i64 3] V fun e w' => e = .returned (.bool true) ∧ Fr (fun _ => False) V w' := fun V hf => by
            have h1 := scans_any (HBO.out.quiet hf) 0 3 (by unfold InI; omega)
            rw [e0] at h1
            exact h1
          have HSC := Lib.hid hsc
          clear hBo e0 hsc
          go_upto_region 28 with (fail)
          refine wp_region_held_drew (S := fun V => V.cell? ⟨gg, 2, none⟩ = some (.pointer (some ⟨r 2, 0, none⟩)) ∧ V.cell? ⟨hh, 2, none⟩ = some (.pointer (some ⟨m 2, 0, none⟩))) (by kernel_rfl) ?_ (fun hHeld => ?_)
          · exact HS.out _ (Fr.drew _ _)
          refine takeH (i := 0) (d := 109) (v := ?ve20) rfl (by kernel_rfl) (by kernel_rfl) (by kernel_rfl) (by kernel_rfl) (fun _ _ _ h => h) (Or.inl ⟨by kernel_rfl, ?hye20⟩) hHeld ?reste20
          case hye20 =>
            intro w hSw
            try dsimp only at hSw
            first | (go_simp; done) | (go_simp; with_reducible rfl)
          try simp only [Act.put, List.setIfInBounds_toArray, List.set_cons_zero, List.set_cons_succ]
          refine takeH (i := 1) (d := 110) (v := ?ve21) rfl (by kernel_rfl) (by kernel_rfl) (by kernel_rfl) (by kernel_rfl) (fun _ _ _ h => h) (Or.inl ⟨by kernel_rfl, ?hye21⟩) hHeld ?reste21
          case hye21 =>
            intro w hSw
            try dsimp only at hSw
            first | (go_simp; done) | (go_simp; with_reducible rfl)
          try simp only [Act.put, List.setIfInBounds_toArray, List.set_cons_zero, List.set_cons_succ]
          refine takeH (i := 2) (d := 111) (v := ?ve22) rfl (by kernel_rfl) (by kernel_rfl) (by kernel_rfl) (by kernel_rfl) (fun _ _ _ h => h) (Or.inl ⟨by kernel_rfl, ?hye22⟩) hHeld ?reste22
          case hye22 =>
            intro w hSw
            try dsimp only at hSw
            first | (go_simp; done) | (go_simp; with_reducible rfl)
          try simp only [Act.put, List.setIfInBounds_toArray, List.set_cons_zero, List.set_cons_succ]
          refine takeH (i := 3) (d := 112) (v := ?ve23) rfl (by kernel_rfl) (by kernel_rfl) (by kernel_rfl) (by kernel_rfl) (fun _ _ _ h => h) (Or.inl ⟨by kernel_rfl, ?hye23⟩) hHeld ?reste23
          case hye23 =>
            intro w hSw
            try dsimp only at hSw
            first | (go_simp; done) | (go_simp; with_reducible rfl)
          try simp only [Act.put, List.setIfInBounds_toArray, List.set_cons_zero, List.set_cons_succ]
          refine takeH (i := 4) (d := 113) (v := ?ve24) rfl (by kernel_rfl) (by kernel_rfl) (by kernel_rfl) (by kernel_rfl) (fun _ _ _ h => h) (Or.inl ⟨by kernel_rfl, ?hye24⟩) hHeld ?reste24
          case hye24 =>
            intro w hSw
            try dsimp only at hSw
            first | (go_simp; done) | (go_simp; with_reducible rfl)
          try simp only [Act.put, List.setIfInBounds_toArray, List.set_cons_zero, List.set_cons_succ]
          refine takeH (i := 5) (d := 114) (v := ?ve25) rfl (by kernel_rfl) (by kernel_rfl) (by kernel_rfl) (by kernel_rfl) (fun _ _ _ h => h) (Or.inl ⟨by kernel_rfl, ?hye25⟩) hHeld ?reste25
          case hye25 =>
            intro w hSw
            try dsimp only at hSw
            first | (go_simp; done) | (go_simp; with_reducible rfl)
          try simp only [Act.put, List.setIfInBounds_toArray, List.set_cons_zero, List.set_cons_succ]
          refine wpAnyH_ready (rs := [6]) (by kernel_rfl) (by simp) ?_
          refine AllReadyH.cons rfl (fun K hK => ?_) AllReadyH.nil
          have HH := Lib.hid hHeld
          clear hHeld
          go_simp
          refine HST.out.mono ?_
          rintro e x1 ⟨rfl, hf1⟩
          have HF1 := Lib.hid ((Fr.drew (fun _ => False) wq).trans hf1 (fun _ h _ => h))
          clear hf1
          refine hK.out _ _ ?_ (fun hNew => ?_)
          · exact HS.out _ HF1.out
          clear hK K HH
          have hHeld := hNew
          clear hNew
          try simp only [Act.put, List.setIfInBounds_toArray, List.set_cons_zero, List.set_cons_succ]
          refine takeH (i := 7) (d := 116) (v := ?ve26) rfl (by kernel_rfl) (by kernel_rfl) (by kernel_rfl) (by kernel_rfl) (fun _ _ _ h => h) (Or.inl ⟨by kernel_rfl, ?hye26⟩) hHeld ?reste26
          case hye26 =>
            intro w hSw
            try dsimp only at hSw
            first | (go_simp; done) | (go_simp; with_reducible rfl)
          try simp only [Act.put, List.setIfInBounds_toArray, List.set_cons_zero, List.set_cons_succ]
          refine takeH (i := 8) (d := 117) (v := ?ve27) rfl (by kernel_rfl) (by kernel_rfl) (by kernel_rfl) (by kernel_rfl) (fun _ _ _ h => h) (Or.inl ⟨by kernel_rfl, ?hye27⟩) hHeld ?reste27
          case hye27 =>
            intro w hSw
            try dsimp only at hSw
            first | (go_simp; done) | (go_simp; with_reducible rfl)
          try simp only [Act.put, List.setIfInBounds_toArray, List.set_cons_zero, List.set_cons_succ]
          refine takeH (i := 9) (d := 118) (v := ?ve28) rfl (by kernel_rfl) (by kernel_rfl) (by kernel_rfl) (by kernel_rfl) (fun _ _ _ h => h) (Or.inl ⟨by kernel_rfl, ?hye28⟩) hHeld ?reste28
          case hye28 =>
            intro w hSw
            try dsimp only at hSw
            first | (go_simp; done) | (go_simp; with_reducible rfl)
          try simp only [Act.put, List.setIfInBounds_toArray, List.set_cons_zero, List.set_cons_succ]
          refine takeH (i := 10) (d := 119) (v := ?ve29) rfl (by kernel_rfl) (by kernel_rfl) (by kernel_rfl) (by kernel_rfl) (fun _ _ _ h => h) (Or.inl ⟨by kernel_rfl, ?hye29⟩) hHeld ?reste29
          case hye29 =>
            intro w hSw
            try dsimp only at hSw
            first | (go_simp; done) | (go_simp; with_reducible rfl)
          try simp only [Act.put, List.setIfInBounds_toArray, List.set_cons_zero, List.set_cons_succ]
          refine takeH (i := 11) (d := 120) (v := ?ve210) rfl (by kernel_rfl) (by kernel_rfl) (by kernel_rfl) (by kernel_rfl) (fun _ _ _ h => h) (Or.inl ⟨by kernel_rfl, ?hye210⟩) hHeld ?reste210
          case hye210 =>
            intro w hSw
            try dsimp only at hSw
            first | (go_simp; done) | (go_simp; with_reducible rfl)
          try simp only [Act.put, List.setIfInBounds_toArray, List.set_cons_zero, List.set_cons_succ]
          refine takeH (i := 12) (d := 121) (v := ?ve211) rfl (by kernel_rfl) (by kernel_rfl) (by kernel_rfl) (by kernel_rfl) (fun _ _ _ h => h) (Or.inl ⟨by kernel_rfl, ?hye211⟩) hHeld ?reste211
          case hye211 =>
            intro w hSw
            try dsimp only at hSw
            first | (go_simp; done) | (go_simp; with_reducible rfl)
          try simp only [Act.put, List.setIfInBounds_toArray, List.set_cons_zero, List.set_cons_succ]
          refine takeH (i := 13) (d := 122) (v := ?ve212) rfl (by kernel_rfl) (by kernel_rfl) (by kernel_rfl) (by kernel_rfl) (fun _ _ _ h => h) (Or.inl ⟨by kernel_rfl, ?hye212⟩) hHeld ?reste212
          case hye212 =>
            intro w hSw
            try dsimp only at hSw
            first | (go_simp; done) | (go_simp; with_reducible rfl)
          try simp only [Act.put, List.setIfInBounds_toArray, List.set_cons_zero, List.set_cons_succ]
          refine takeH (i := 14) (d := 123) (v := ?ve213) rfl (by kernel_rfl) (by kernel_rfl) (by kernel_rfl) (by kernel_rfl) (fun _ _ _ h => h) (Or.inl ⟨by kernel_rfl, ?hye213⟩) hHeld ?reste213
          case hye213 =>
            intro w hSw
            try dsimp only at hSw
            first | (go_simp; done) | (go_simp; with_reducible rfl)
          try simp only [Act.put, List.setIfInBounds_toArray, List.set_cons_zero, List.set_cons_succ]
          refine wpAnyH_ready (rs := [15]) (by kernel_rfl) (by simp) ?_
          refine AllReadyH.cons rfl (fun K hK => ?_) AllReadyH.nil
          have HH := Lib.hid hHeld
          clear hHeld
          go_simp
          refine (HSC.out _ HF1.out).mono ?_
          rintro e x2 ⟨rfl, hf2⟩
          have HF2 := Lib.hid (HF1.out.trans hf2 (fun _ h _ => h))
          clear hf2
          refine hK.out _ _ ?_ (fun hNew => ?_)
          · exact HS.out _ HF2.out
          clear hK K HH
          have hHeld := hNew
          clear hNew
          try simp only [Act.put, List.setIfInBounds_toArray, List.set_cons_zero, List.set_cons_succ]
          refine takeH (i := 16) (d := 125) (v := ?ve214) rfl (by kernel_rfl) (by kernel_rfl) (by kernel_rfl) (by kernel_rfl) (fun _ _ _ h => h) (Or.inl ⟨by kernel_rfl, ?hye214⟩) hHeld ?reste214
          case hye214 =>
            intro w hSw
            try dsimp only at hSw
            first | (go_simp; done) | (go_simp; with_reducible rfl)
          try simp only [Act.put, List.setIfInBounds_toArray, List.set_cons_zero, List.set_cons_succ]
          refine takeH (i := 17) (d := 126) (v := ?ve215) rfl (by kernel_rfl) (by kernel_rfl) (by kernel_rfl) (by kernel_rfl) (fun _ _ _ h => h) (Or.inl ⟨by kernel_rfl, ?hye215⟩) hHeld ?reste215
          case hye215 =>
            intro w hSw
            try dsimp only at hSw
            first | (go_simp; done) | (go_simp; with_reducible rfl)
          try simp only [Act.put, List.setIfInBounds_toArray, List.set_cons_zero, List.set_cons_succ]
          refine wpAnyH_done (by kernel_rfl) ?_ _
          go_wp2_with fail
          go_roundw
          case rel => exact ⟨.inr (.inr (.inr rfl)), HTQ.out.quiet HF2.out⟩
          case measure => simp [intOf]
        · go_wp2_with fail
          go_ret
          exact ⟨rfl, (HF0.out.trans HTQ.out.fr (fun _ h _ => h)).below (Nat.le_refl _) (fun _ h => h.elim)⟩
end Go.Proofs.Ytgomilodeaafdaa

/- pantrylaw14's plays: a step answers as the reference says. No condition. -/
import Derived.Test.YtpcjogmikgfgdaaPlay14
import Derived.Test.YtpcjogmikgfgdaaStep14
namespace Go.Proofs.Ytpcjogmikgfgdaa
open Go.RowKit Go.Sort
set_option maxRecDepth 100000 in
set_option maxHeartbeats 4000000 in
theorem plays14_any (w : World) (B p q cap : Nat) (vr vq : Value) (l A : List Cd) (o : Sp) (h : Pq w B p q cap vr vq l A) (hB : B ≤ w.heap.size) :
    Calls Try.prog 53 #[.pointer (some ⟨p, 0, none⟩), .pointer (some ⟨q, 0, none⟩), .agg #[.int .i64 o.who, .int .i64 o.do_, .string o.c.key, .int .u64 o.c.rank]] w (PlPost w B p q cap vr vq) := by
  obtain ⟨who, dd, c⟩ := o
  dsimp only
  have HFA : Hid (Fr (fun _ => False) w (w.alloc (.cells #[.int .i64 who, .int .i64 dd, .string c.key, .int .u64 c.rank] 87))) := Fr.alloc _ _ _
  have hbs := alloc_at w (.cells #[.int .i64 who, .int .i64 dd, .string c.key, .int .u64 c.rank] 87)
  have HBL := Lib.hid h.below
  have H1 := Lib.hid (h.quiet HFA.out)
  clear h
  go_enter Try.func53, Try.ntmps53
  obtain ⟨W1, hW1⟩ : ∃ W, w.alloc (.cells #[.int .i64 who, .int .i64 dd, .string c.key, .int .u64 c.rank] 87) = W := ⟨_, rfl⟩
  have HW1 := Lib.hid hW1
  rw [hW1] at HFA hbs H1
  obtain ⟨s, hs⟩ : ∃ s, w.heap.size = s := ⟨_, rfl⟩
  have HSZ : Hid (s < W1.heap.size) := (Array.getElem?_eq_some_iff.1 (by rw [hs] at hbs; exact hbs)).1
  have HBW1 : Hid (B ≤ W1.heap.size) := Nat.le_trans hB HFA.out.size
  -- what every way hands back
  have HOUT : Hid (∀ V vr' vq' l' A', Pq V B p q cap vr' vq' l' A' → (∀ i, Fp p q vr' vq' i → Fp p q vr vq i ∨ W1.heap.size ≤ i) → Fr (Fp p q vr vq) W1 V → PlPost w B p q cap vr vq (.returned (.bool true)) V) := fun V vr' vq' l' A' h1 h2 h3 =>
    ⟨rfl, vr', vq', l', A', h1, fun i hi => (h2 i hi).elim .inl (fun e => .inr (Nat.le_trans HFA.out.size e)), (HFA.out.mono (fun _ h _ => h.elim)).wide h3 (fun i hi => .inl hi)⟩
  -- the step's box, behind whatever turned the two
  have HST : Hid (∀ V, Fr (Fp p q vr vq) W1 V → V.heap[s]? = some (.cells #[.int .i64 who, .int .i64 dd, .string c.key, .int .u64 c.rank] 87 (0, 0))) := fun V hf => by
    rw [hs] at hbs
    exact (hf.block s HSZ.out (fun e => by have := HBL.out s e; omega)).trans hbs
  have hst1 := HST.out W1 (Fr.refl _ _)
  have x0 : W1.cell? ⟨s, 0, none⟩ = some (.int .i64 who) := cell_of_blk hst1 0
  have x1 : W1.cell? ⟨s, 1, none⟩ = some (.int .i64 dd) := cell_of_blk hst1 1
  have x2 : W1.cell? ⟨s, 2, none⟩ = some (.string c.key) := cell_of_blk hst1 2
  have x3 : W1.cell? ⟨s, 3, none⟩ = some (.int .u64 c.rank) := cell_of_blk hst1 3
  clear hbs hst1 hB
  go_upto_region 1 with (fail)
  clear hW1
  rw [hs] at *
  by_cases h0 : dd = 0
  · subst h0
    go_wp2_with fail
    refine (offerR_any W1 B q cap vq A c H1.out.m H1.out.s.le HBW1.out).mono ?_
    rintro e w2 ⟨vq2, A2, b2, rfl, hro, hr2, ha2, hf2⟩
    have HRO := Lib.hid hro
    have HR2 := Lib.hid hr2
    have HA2 := Lib.hid ha2
    have HF2 := Lib.hid hf2
    have HPM := Lib.hid (H1.out.mid hf2)
    have hst2 := HST.out w2 (hf2.mono (fun i hi _ => .inr hi))
    have x0 : w2.cell? ⟨s, 0, none⟩ = some (.int .i64 who) := cell_of_blk hst2 0
    have x1 : w2.cell? ⟨s, 1, none⟩ = some (.int .i64 0) := cell_of_blk hst2 1
    have x2 : w2.cell? ⟨s, 2, none⟩ = some (.string c.key) := cell_of_blk hst2 2
    have x3 : w2.cell? ⟨s, 3, none⟩ = some (.int .u64 c.rank) := cell_of_blk hst2 3
    clear hro hr2 ha2 hf2 hst2
    go_wp2_with fail
    refine (offer_any w2 B p cap vr l c HPM.out (by rw [H1.out.s.len]; exact H1.out.s.le) (Nat.le_trans HBW1.out HF2.out.size)).mono ?_
    intro e w3 hq
    obtain ⟨vr3, rfl, hp3, ha3, hf3⟩ := hq
    obtain ⟨k1, k2⟩ := off_law H1.out.s HRO.out
    rw [k1]
    obtain ⟨j1, j2, j3⟩ := H1.out.both HR2.out HA2.out HF2.out hp3 ha3 hf3 k2
    have HJ := Lib.hid (HOUT.out _ _ _ _ _ j1 j2 j3)
    clear k1 k2 j1 j2 j3 hp3 ha3 hf3 x0 x1 x2 x3
    cases b2
    all_goals
      go_wp2_with fail
      go_ret
      exact HJ.out
  · have g0 : (dd == 0) = false := by rw [beq_eq_false_iff_ne]; exact h0
    by_cases h1 : dd = 1
    · subst h1
      clear g0 h0
      go_wp2_with fail
      refine (dropR_any W1 B q cap vq A c.key H1.out.m HBW1.out).mono ?_
      rintro e w2 ⟨vq2, A2, b2, rfl, hro, hr2, ha2, hf2⟩
      have HRO := Lib.hid hro
      have HR2 := Lib.hid hr2
      have HA2 := Lib.hid ha2
      have HF2 := Lib.hid hf2
      have HPM := Lib.hid (H1.out.mid hf2)
      have hst2 := HST.out w2 (hf2.mono (fun i hi _ => .inr hi))
      have x2 : w2.cell? ⟨s, 2, none⟩ = some (.string c.key) := cell_of_blk hst2 2
      clear hro hr2 ha2 hf2 hst2
      go_wp2_with fail
      refine (drop_any w2 B p cap vr l c.key HPM.out).mono ?_
      rintro e w3 ⟨vr3, rfl, hp3, hv3, hf3⟩
      obtain ⟨k1, k2⟩ := drop_law H1.out.s HRO.out
      rw [k1]
      obtain ⟨j1, j2, j3⟩ := H1.out.both HR2.out HA2.out HF2.out hp3 (fun g hg => .inl (by rw [← hv3]; exact hg)) hf3 k2
      have HJ := Lib.hid (HOUT.out _ _ _ _ _ j1 j2 j3)
      clear k1 k2 j1 j2 j3 hp3 hv3 hf3 x0 x1 x2 x3
      cases b2
      all_goals
        go_wp2_with fail
        go_ret
        exact HJ.out
    · have g1 : (dd == 1) = false := by rw [beq_eq_false_iff_ne]; exact h1
      by_cases h2 : dd = 2
      · subst h2
        clear g0 h0 g1 h1
        go_wp2_with fail
        refine (takeR_any W1 B q cap vq A H1.out.m H1.out.s.ap.nodup HBW1.out).mono ?_
        intro e w2 hq
        rw [← H1.out.s.so] at hq
        cases l with
        | nil =>
          obtain ⟨rfl, hr2, hf2⟩ := hq
          have HR2 := Lib.hid hr2
          have HF2 := Lib.hid hf2
          have HPM := Lib.hid (H1.out.mid hf2)
          clear hr2 hf2 x0 x1 x2 x3
          go_wp2_with fail
          obtain ⟨W3, hW3⟩ : ∃ W, w2.alloc (.cells #[.string ⟨#[]⟩, .int .u64 0] 73) = W := ⟨_, rfl⟩
          have hx1 : W3.heap[w2.heap.size]? = some (.cells #[.string ⟨#[]⟩, .int .u64 0] 73 (0, 0)) := by rw [← hW3]; exact alloc_at _ _
          have HF3 : Hid (Fr (fun _ => False) w2 W3) := by rw [← hW3]; exact Fr.alloc _ _ _
          have HP3 := Lib.hid (HPM.out.quiet HF3.out)
          obtain ⟨n1, hn1⟩ : ∃ n, w2.heap.size = n := ⟨_, rfl⟩
          have hp1 : p < n1 := by rw [← hn1]; exact HPM.out.lt
          have HO1 : Hid (∀ g, vr.ownBlock = some g → g < n1) := fun g hg => by rw [← hn1]; exact (own_blk HPM.out.row hg).2.1
          rw [hW3]
          rw [hn1] at hx1 ⊢
          clear hW3 hn1
          refine (take_any W3 B p cap vr [] HP3.out).mono ?_
          rintro e w4 ⟨rfl, hp4, hf4⟩
          have hx2 := (hf4.block n1 (Array.getElem?_eq_some_iff.1 hx1).1 (fun e => by
            rcases e with e | e
            · omega
            · have := HO1.out _ e; omega)).trans hx1
          have x0 : w4.cell? ⟨n1, 0, none⟩ = some (.string ⟨#[]⟩) := cell_of_blk hx2 0
          have x1 : w4.cell? ⟨n1, 1, none⟩ = some (.int .u64 0) := cell_of_blk hx2 1
          have hnl := (Array.getElem?_eq_some_iff.1 hx2).1
          obtain ⟨j1, j2, j3⟩ := H1.out.both (HR2.out.quiet HF3.out) (fun g hg => .inl hg) (HF2.out.wide HF3.out (fun _ h => h.elim)) hp4 (fun g hg => .inl hg) hf4 H1.out.s
          have HJ := Lib.hid (fun (V : World) (hf : Fr (fun _ => False) w4 V) => HOUT.out V _ _ _ _ (j1.quiet hf) j2 (j3.wide hf (fun _ h => h.elim)))
          clear j1 j2 j3 hp4 hf4 hx1 hx2
          go_wp2_with fail
          go_ret
          exact HJ.out _ (Fr.alloc _ _ _)
        | cons c0 l0 =>
          obtain ⟨vq2, A2, b2, rfl, hro, hr2, ha2, hf2⟩ := hq
          have HRO := Lib.hid hro
          have HR2 := Lib.hid hr2
          have HA2 := Lib.hid ha2
          have HF2 := Lib.hid hf2
          have HPM := Lib.hid (H1.out.mid hf2)
          clear hr2 hf2 ha2 hro x0 x1 x2 x3
          obtain ⟨key, rank⟩ := c0
          dsimp only at HRO ⊢
          go_wp2_with fail
          obtain ⟨W3, hW3⟩ : ∃ W, w2.alloc (.cells #[.string key, .int .u64 rank] 73) = W := ⟨_, rfl⟩
          have hx1 : W3.heap[w2.heap.size]? = some (.cells #[.string key, .int .u64 rank] 73 (0, 0)) := by rw [← hW3]; exact alloc_at _ _
          have HF3 : Hid (Fr (fun _ => False) w2 W3) := by rw [← hW3]; exact Fr.alloc _ _ _
          have HP3 := Lib.hid (HPM.out.quiet HF3.out)
          obtain ⟨n1, hn1⟩ : ∃ n, w2.heap.size = n := ⟨_, rfl⟩
          have hp1 : p < n1 := by rw [← hn1]; exact HPM.out.lt
          have HO1 : Hid (∀ g, vr.ownBlock = some g → g < n1) := fun g hg => by rw [← hn1]; exact (own_blk HPM.out.row hg).2.1
          rw [hW3]
          rw [hn1] at hx1 ⊢
          clear hW3 hn1
          refine (take_any W3 B p cap vr (⟨key, rank⟩ :: l0) HP3.out).mono ?_
          rintro e w4 ⟨vr4, rfl, hp4, hv4, hf4⟩
          have hx2 := (hf4.block n1 (Array.getElem?_eq_some_iff.1 hx1).1 (fun e => by
            rcases e with e | e
            · omega
            · have := HO1.out _ e; omega)).trans hx1
          have x0 : w4.cell? ⟨n1, 0, none⟩ = some (.string key) := cell_of_blk hx2 0
          have x1 : w4.cell? ⟨n1, 1, none⟩ = some (.int .u64 rank) := cell_of_blk hx2 1
          have hnl := (Array.getElem?_eq_some_iff.1 hx2).1
          obtain ⟨j1, j2, j3⟩ := H1.out.both (HR2.out.quiet HF3.out) HA2.out (HF2.out.wide HF3.out (fun _ h => h.elim)) hp4 (fun g hg => .inl (by rw [← hv4]; exact hg)) hf4 (take_law H1.out.s HRO.out)
          have HJ := Lib.hid (fun (V : World) (hf : Fr (fun _ => False) w4 V) => HOUT.out V _ _ _ _ (j1.quiet hf) j2 (j3.wide hf (fun _ h => h.elim)))
          clear j1 j2 j3 hp4 hf4 hx1 hx2 hv4
          go_wp2_with fail
          go_ret
          exact HJ.out _ (Fr.alloc _ _ _)
      · have g2 : (dd == 2) = false := by rw [beq_eq_false_iff_ne]; exact h2
        by_cases h3 : dd = 3
        · subst h3
          clear g0 h0 g1 h1 g2 h2
          go_wp2_with fail
          refine (row_any W1 B B p q cap vr vq l A H1.out.a H1.out.m H1.out.s).mono ?_
          rintro e w2 ⟨rfl, hf2⟩
          have HJ := Lib.hid (HOUT.out w2 _ _ _ _ (H1.out.quiet hf2) (fun i hi => .inl hi) (hf2.mono (fun _ h _ => h.elim)))
          clear hf2 x0 x1 x2 x3
          go_wp2_with fail
          go_ret
          exact HJ.out
        · have g3 : (dd == 3) = false := by rw [beq_eq_false_iff_ne]; exact h3
          by_cases h4 : dd = 4
          · subst h4
            clear g0 h0 g1 h1 g2 h2 g3 h3
            go_wp2_with fail
            refine (clearR_any W1 B q cap vq A H1.out.m).mono ?_
            rintro e w2 ⟨⟨u2, rfl⟩, hr2, hf2⟩
            have HR2 := Lib.hid hr2
            have HF2 : Hid (Fr (fun i => i = q ∨ vq.ownBlock = some i) W1 w2) := hf2.mono (fun _ h _ => .inl h)
            have HPM := Lib.hid (H1.out.mid HF2.out)
            clear hr2 hf2 x0 x1 x2 x3
            go_wp2_with fail
            refine (clear_any w2 B p cap vr l HPM.out).mono ?_
            rintro e w3 ⟨⟨u3, rfl⟩, hp3, hf3⟩
            obtain ⟨j1, j2, j3⟩ := H1.out.both HR2.out (fun g hg => by cases hg) HF2.out hp3 (fun g hg => by cases hg) (hf3.mono (fun _ h _ => .inl h)) (Srt.nil cap)
            have HJ := Lib.hid (HOUT.out _ _ _ _ _ j1 j2 j3)
            clear j1 j2 j3 hp3 hf3
            go_wp2_with fail
            go_ret
            exact HJ.out
          · have g4 : (dd == 4) = false := by rw [beq_eq_false_iff_ne]; exact h4
            have HJ := Lib.hid (HOUT.out W1 _ _ _ _ H1.out (fun i hi => .inl hi) (Fr.refl _ _))
            clear h0 h1 h2 h3 h4 x0 x2 x3
            go_wp2_with fail
            go_ret
            exact HJ.out
end Go.Proofs.Ytpcjogmikgfgdaa

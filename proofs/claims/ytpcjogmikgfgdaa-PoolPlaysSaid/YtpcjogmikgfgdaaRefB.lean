/- The reference's Offer. No condition. -/
import Derived.Test.YtpcjogmikgfgdaaRefA
import Derived.Deep.RegionLaw
import Derived.Deep.AppendLies
import Derived.Deep.QuietTactic
import Derived.BigQuiet
import Derived.StillTailTactics
import Derived.BigRegion
import Derived.Outline
namespace Go.Proofs.Ytpcjogmikgfgdaa
open Go.RowKit Go.Sort
/-- what the reference's Offer hands back -/
def ROffPost (w : World) (B p cap : Nat) (vr : Value) (A : List Cd) (c : Cd) (e : Ending) (w' : World) : Prop :=
  ∃ vr' A' b, e = .returned (.bool b) ∧ RefOff cap A c A' b ∧ RefAt w' B p cap vr' A' ∧ (∀ g, vr'.ownBlock = some g → vr.ownBlock = some g ∨ w.heap.size ≤ g) ∧ Fr (fun i => i = p ∨ vr.ownBlock = some i) w w'
theorem append_finR {w1 w2 : World} {B p cap g2 cap2 : Nat} {vr : Value} {l : List Cd} {c : Cd} (H : RefAt w1 B p cap vr l) (hl : l.length ≤ 16) (o : Obj)
    (hgrow : (w1.alloc o).grownBy w2 vr.ownBlock) (hown : w2.ownsRow B 73 2 (.slice (some ⟨g2, 0, none⟩) (l.length + 1) cap2) (l.length + 1) (clC l ++ [.string c.key, .int .u64 c.rank])) :
    RefAt (w2.setCell ⟨p, 1, none⟩ (.slice (some ⟨g2, 0, none⟩) (l.length + 1) cap2)) B p cap (.slice (some ⟨g2, 0, none⟩) (l.length + 1) cap2) (l ++ [c]) ∧ w2.cell? ⟨p, 1, none⟩ = some vr ∧ w2.frozen? ⟨p, 1, none⟩ = false ∧ Fr (fun k => k = p ∨ vr.ownBlock = some k) w1 (w2.setCell ⟨p, 1, none⟩ (.slice (some ⟨g2, 0, none⟩) (l.length + 1) cap2)) := by
  have hf : Fr (fun k => vr.ownBlock = some k) w1 w2 := (Fr.alloc _ w1 o).wide (Fr.of_grownBy hgrow) (fun i hi => .inl hi)
  have hp2 := (hf.block p H.lt H.pr).trans H.blk
  have hr : w2.ownsRow B 73 2 (.slice (some ⟨g2, 0, none⟩) (l.length + 1) cap2) (l ++ [c]).length (clC (l ++ [c])) := by
    have e1 : clC (l ++ [c]) = clC l ++ [.string c.key, .int .u64 c.rank] := by unfold clC; rw [List.flatMap_append, List.flatMap_singleton]; rfl
    rw [e1, List.length_append]
    exact hown
  exact ⟨RefAt.stored hp2 hr H.bp (by simp; omega) H.cap1 H.cap2, cell_of_blk hp2 1, free_of_blk hp2 1, (hf.mono (fun _ h _ => .inr h)).wide (Fr.setCell w2 ⟨p, 1, none⟩ _) (fun i hi => .inl (.inl hi))⟩
/-- the greatest so far -/
def Mx (A : List Cd) (m k : Nat) : Prop := ∃ hm : m < A.length, ∀ a ∈ A.take k, ¬ ltC A[m] a
theorem Mx.keep {A : List Cd} {m k : Nat} (h : Mx A m k) (hm : m < A.length) (hk : k < A.length) (hn : ¬ ltC A[m] A[k]) : Mx A m (k + 1) := by
  obtain ⟨_, h1⟩ := h
  refine ⟨hm, fun a ha => ?_⟩
  rw [List.take_succ_eq_append_getElem hk, List.mem_append, List.mem_singleton] at ha
  rcases ha with ha | rfl
  · exact h1 a ha
  · exact hn
theorem Mx.turn {A : List Cd} {m k : Nat} (h : Mx A m k) (hm : m < A.length) (hk : k < A.length) (hn : ltC A[m] A[k]) : Mx A k (k + 1) := by
  obtain ⟨_, h1⟩ := h
  refine ⟨hk, fun a ha => ?_⟩
  rw [List.take_succ_eq_append_getElem hk, List.mem_append, List.mem_singleton] at ha
  rcases ha with ha | rfl
  · exact fun e => h1 a ha (ltC_trans hn e)
  · exact ltC_irrefl _
set_option maxRecDepth 100000 in
set_option maxHeartbeats 4000000 in
theorem offerR_any (w : World) (B p cap : Nat) (vr : Value) (A : List Cd) (c : Cd) (h : RefAt w B p cap vr A) (hlc : A.length ≤ cap) (hB : B ≤ w.heap.size) :
    Calls Try.prog 83 #[.pointer (some ⟨p, 0, none⟩), .agg #[.string c.key, .int .u64 c.rank]] w (ROffPost w B p cap vr A c) := by
  obtain ⟨i0, hi, hz0, hz1, hz2⟩ := info_parts infoC
  have HI := Lib.hid hi
  have HZ0 := Lib.hid hz0
  have HZ1 := Lib.hid hz1
  have HZ2 := Lib.hid hz2
  have hpw := h.lt
  have hc2 := h.cap2
  have hc1 := h.cap1
  have HF1 : Hid (Fr (fun _ => False) w (w.alloc (.cells #[.string c.key, .int .u64 c.rank] 73))) := Fr.alloc _ _ _
  have hbx := alloc_at w (.cells #[.string c.key, .int .u64 c.rank] 73)
  have H1 := Lib.hid (h.quiet HF1.out)
  have HPG : Hid (∀ g, vr.ownBlock = some g → g < w.heap.size) := fun g hg => (own_blk h.row hg).2.1
  clear hi hz0 hz1 hz2 h
  go_enter Try.func83, Try.ntmps83
  obtain ⟨W1, hW1⟩ : ∃ W, w.alloc (.cells #[.string c.key, .int .u64 c.rank] 73) = W := ⟨_, rfl⟩
  rw [hW1] at hbx HF1 H1
  have x00 : W1.cell? ⟨w.heap.size, 0, none⟩ = some (.string c.key) := cell_of_blk hbx 0
  go_wp2_with fail
  refine (at_any W1 B p cap vr A c.key H1.out).mono ?_
  intro e w2 hq
  have hf2 := hq.2
  have HF2 : Hid (Fr (fun _ => False) w w2) := HF1.out.wide hf2 (fun _ h => h.elim)
  have hbx2 := (hf2.block _ (Array.getElem?_eq_some_iff.1 hbx).1 (fun h => h)).trans hbx
  have HBX := Lib.hid hbx2
  have H2 := Lib.hid (H1.out.quiet hf2)
  have q0 : w2.cell? ⟨p, 0, none⟩ = some (.int .i64 cap) := H2.out.cell 0
  have q1 : w2.cell? ⟨p, 1, none⟩ = some vr := H2.out.cell 1
  have qf1 : w2.frozen? ⟨p, 1, none⟩ = false := H2.out.free 1
  have x0 : w2.cell? ⟨w.heap.size, 0, none⟩ = some (.string c.key) := cell_of_blk hbx2 0
  have x1 : w2.cell? ⟨w.heap.size, 1, none⟩ = some (.int .u64 c.rank) := cell_of_blk hbx2 1
  have hpx : p ≠ w.heap.size := by omega
  have hpw2 : p < w2.heap.size := H2.out.lt
  have HBB : Hid (B ≤ w2.heap.size) := Nat.le_trans hB HF2.out.size
  clear hbx hbx2 hf2 x00 hW1
  obtain ⟨a1, c1, rfl⟩ := owns_sliceN H2.out.row
  rcases hq.1 with ⟨rfl, hno⟩ | ⟨i, hi, rfl, hk⟩
  · have HNO := Lib.hid hno
    clear hq hno
    go_wp2_with fail
    by_cases hfull : A.length < cap
    · have g1 : decide (A.length < cap) = true := decide_eq_true hfull
      go_quiet (fail)
      obtain ⟨W3, hW3⟩ : ∃ W, w2.drewN nq = W := ⟨_, rfl⟩
      have HF3 : Hid (Fr (fun _ => False) w W3) := by rw [← hW3]; exact HF2.out.thenDrewN nq
      have H3 : Hid (RefAt W3 B p cap (.slice a1 A.length c1) A) := by rw [← hW3]; exact H2.out.quiet (Fr.drewN _ _ _)
      have q0 : W3.cell? ⟨p, 0, none⟩ = some (.int .i64 cap) := H3.out.cell 0
      have q1 : W3.cell? ⟨p, 1, none⟩ = some (.slice a1 A.length c1) := H3.out.cell 1
      have qf1 : W3.frozen? ⟨p, 1, none⟩ = false := H3.out.free 1
      have hbx3 : W3.heap[w.heap.size]? = some (.cells #[.string c.key, .int .u64 c.rank] 73 (0, 0)) := by rw [← hW3]; exact HBX.out
      have x0 : W3.cell? ⟨w.heap.size, 0, none⟩ = some (.string c.key) := cell_of_blk hbx3 0
      have x1 : W3.cell? ⟨w.heap.size, 1, none⟩ = some (.int .u64 c.rank) := cell_of_blk hbx3 1
      have HBB3 : Hid (B ≤ W3.heap.size) := by rw [← hW3]; exact HBB.out
      have hpw3 : p < W3.heap.size := by rw [← hW3]; exact hpw2
      rw [hW3]
      have hl16 : A.length ≤ 16 := by omega
      have H4 := Lib.hid (H3.out.quiet (Fr.drew (fun _ => False) W3))
      clear hW3 hbx3 HBX H2 H3
      go_wp2_with fail
      go_region_law (first
        | (refine step_append_lies _ (by rfl) (.tmp 39) (.tmp 41) 67 (by rfl) B 73 i0 (.agg #[.string ⟨#[]⟩, .int .u64 0]) 2 24 Try.underlying67 HI.out HZ0.out HZ1.out HZ2.out rfl (by decide) (.slice a1 A.length c1) A.length (clC A) (by rfl) (H4.out.row.alloc _) ⟨W3.drew.heap.size, 0, none⟩ 1 1 [.string c.key, .int .u64 c.rank] (by rfl) rfl (cells_two_new _ _ _ _) (by simp [Value.oneCell']) (by decide) (by unfold maxLen; omega) (by omega) (by have := HBB3.out; simp; omega) (W3.heap.size + 1) (by simp) ?_; intro g2 cap2 w3 hown hgrow hat hlt; obtain ⟨q1, q2, q3, q4⟩ := append_finR (c := c) H4.out hl16 _ hgrow hown; have Q1 := Lib.hid q1; have Q4 := Lib.hid q4; have HAT := Lib.hid hat; clear hown hgrow hat q1 q4))
      all_goals
        go_wp2_with fail
        go_ret
        refine ⟨_, A ++ [c], true, rfl, .inr (.inl ⟨HNO.out, hfull, rfl, rfl⟩), Q1.out, fun g hg => ?_, (HF3.out.mono (fun _ h _ => h.elim)).wide ((Fr.drew _ W3).wide Q4.out (fun i hi => .inl hi)) (fun i hi => .inl hi)⟩
        have h5 : g2 = g := Option.some.inj hg
        rcases HAT.out with h6 | h6
        · exact .inl (by rw [h6, h5])
        · exact .inr (by have := HF3.out.size; rw [← h5, h6]; simp; omega)
    · have g1 : decide (A.length < cap) = false := decide_eq_false hfull
      go_quiet (fail)
      obtain ⟨W3, hW3⟩ : ∃ W, w2.drewN nq = W := ⟨_, rfl⟩
      have HF3 : Hid (Fr (fun _ => False) w W3) := by rw [← hW3]; exact HF2.out.thenDrewN nq
      have H3 : Hid (RefAt W3 B p cap (.slice a1 A.length c1) A) := by rw [← hW3]; exact H2.out.quiet (Fr.drewN _ _ _)
      have q0 : W3.cell? ⟨p, 0, none⟩ = some (.int .i64 cap) := H3.out.cell 0
      have q1 : W3.cell? ⟨p, 1, none⟩ = some (.slice a1 A.length c1) := H3.out.cell 1
      have hbx3 : W3.heap[w.heap.size]? = some (.cells #[.string c.key, .int .u64 c.rank] 73 (0, 0)) := by rw [← hW3]; exact HBX.out
      have HBX3 := Lib.hid hbx3
      rw [hW3]
      clear hW3 hbx3 HBX H2 x0 x1 qf1 HF1 H1
      go_wp2_with fail
      go_loopw [6, 50] (fun la i wr => ∃ (m k : Nat), la = .int .i64 m ∧ i = .int .i64 k ∧ k ≤ A.length ∧ m < A.length ∧ Hid (Mx A m k) ∧ Hid (Fr (fun _ => False) W3 wr)) (fun _ i _ => A.length - (intOf i).toNat)
      case atStart => exact ⟨0, 0, rfl, rfl, by omega, by omega, ⟨by omega, fun a ha => by simp at ha⟩, Fr.refl _ _⟩
      case round =>
        obtain ⟨m, k, rfl, rfl, hk, hm, HM, HF⟩ := hrel
        obtain ⟨wo, rfl⟩ : ∃ x, x = wr := ⟨_, rfl⟩
        have H4 := Lib.hid (H3.out.quiet HF.out)
        have q0 : wo.cell? ⟨p, 0, none⟩ = some (.int .i64 cap) := H4.out.cell 0
        have q1 : wo.cell? ⟨p, 1, none⟩ = some (.slice a1 A.length c1) := H4.out.cell 1
        have hm0 : (0 : Int) ≤ (m : Int) := by omega
        have hm1 : (m : Int) < (A.length : Int) := by omega
        have hpo : p < wo.heap.size := H4.out.lt
        obtain ⟨g, off, rfl, d0, d1⟩ := cd_at (RdC.of_owns H4.out.row) m hm
        obtain ⟨y, hy⟩ : ∃ y, A[m] = y := ⟨_, rfl⟩
        have HY := Lib.hid hy
        rw [hy] at d0 d1
        clear hy
        by_cases hlt : k < A.length
        · obtain ⟨g', off', he, f0, f1⟩ := cd_at (RdC.of_owns H4.out.row) k hlt
          cases he
          obtain ⟨x, hx⟩ : ∃ x, A[k] = x := ⟨_, rfl⟩
          rw [hx] at f0 f1
          have HX := Lib.hid hx
          have hk0 : (0 : Int) ≤ (k : Int) := by omega
          have hk1 : (k : Int) < (A.length : Int) := by omega
          clear hx
          go_wp2_with fail
          refine wp_region_still_tail 14 (by kernel_rfl) (by kernel_rfl) ?_
          simp only [List.take_succ_cons, List.take_zero, List.drop_succ_cons, List.drop_zero]
          iterate 14 still_step
          refine wpStill_nil ?_
          go_wp2_with fail
          refine (soonerR_any y x _).mono ?_
          rintro e w5 ⟨rfl, hf5⟩
          have HF5 : Hid (Fr (fun _ => False) W3 w5) := (HF.out.thenDrew).wide hf5 (fun _ h => h.elim)
          by_cases hlt2 : ltC y x
          · have HMN : Hid (Mx A k (k + 1)) := HM.out.turn hm hlt (by rw [HY.out, HX.out]; exact hlt2)
            rw [decide_eq_true hlt2]
            clear hf5 hlt2 d0 d1 f0 f1 q0 q1
            go_wp2_with fail
            go_roundw
            case rel => exact ⟨k, k + 1, rfl, by go_num, by omega, hlt, HMN.out, HF5.out⟩
            case measure => simp [intOf]; omega
          · have HMN : Hid (Mx A m (k + 1)) := HM.out.keep hm hlt (by rw [HY.out, HX.out]; exact hlt2)
            rw [decide_eq_false hlt2]
            clear hf5 hlt2 d0 d1 f0 f1 q0 q1
            go_wp2_with fail
            go_roundw
            case rel => exact ⟨m, k + 1, rfl, by go_num, by omega, hm, HMN.out, HF5.out⟩
            case measure => simp [intOf]; omega
        · obtain rfl : k = A.length := by omega
          have hbx4 := (HF.out.block _ (Array.getElem?_eq_some_iff.1 HBX3.out).1 (fun h => h)).trans HBX3.out
          have HBX4 := Lib.hid hbx4
          have x0 : wo.cell? ⟨w.heap.size, 0, none⟩ = some (.string c.key) := cell_of_blk hbx4 0
          have x1 : wo.cell? ⟨w.heap.size, 1, none⟩ = some (.int .u64 c.rank) := cell_of_blk hbx4 1
          have HMX : Hid (∀ a ∈ A, ¬ ltC A[m] a) := by
            obtain ⟨_, h9⟩ := HM.out
            rw [List.take_length] at h9
            exact h9
          have hcap : cap ≤ A.length := by omega
          have HF6 : Hid (Fr (fun _ => False) w wo) := HF3.out.wide HF.out (fun _ h => h.elim)
          clear hbx4
          go_wp2_with fail
          refine wp_region_still_tail 8 (by kernel_rfl) (by kernel_rfl) ?_
          simp only [List.take_succ_cons, List.take_zero, List.drop_succ_cons, List.drop_zero]
          iterate 8 still_step
          refine wpStill_nil ?_
          go_wp2_with fail
          refine (soonerR_any c y _).mono ?_
          rintro e w5 ⟨rfl, hf5⟩
          have hf56 : Fr (fun _ => False) wo w5 := (Fr.drew (fun _ => False) wo).wide hf5 (fun _ h => h.elim)
          have HF5 : Hid (Fr (fun _ => False) w w5) := HF6.out.wide hf56 (fun _ h => h.elim)
          have H5 := Lib.hid (H4.out.quiet hf56)
          have hbx5 := (hf56.block _ (Array.getElem?_eq_some_iff.1 HBX4.out).1 (fun h => h)).trans HBX4.out
          clear hf5 hf56 d0 d1 q0 q1 x0 x1
          by_cases hlt2 : ltC c y
          · have HL2 := Lib.hid hlt2
            rw [decide_eq_true hlt2]
            have x0 : w5.cell? ⟨w.heap.size, 0, none⟩ = some (.string c.key) := cell_of_blk hbx5 0
            have x1 : w5.cell? ⟨w.heap.size, 1, none⟩ = some (.int .u64 c.rank) := cell_of_blk hbx5 1
            have q1 : w5.cell? ⟨p, 1, none⟩ = some (.slice (some ⟨g, off, none⟩) A.length c1) := H5.out.cell 1
            have hO := H5.out.row
            obtain ⟨-, ⟨h9, h99⟩ | ⟨g9, rc, cur, he, _⟩⟩ := hO
            · omega
            cases he
            obtain ⟨⟨z0, y0⟩, yf0, hg0q⟩ := row_cell H5.out.row (show m * 2 < A.length * 2 by omega)
            obtain ⟨⟨z1, y1⟩, yf1, _⟩ := row_cell H5.out.row (show m * 2 + 1 < A.length * 2 by omega)
            have hn := own_putK (own_putK H5.out.row (show m * 2 < A.length * 2 by omega) (.string c.key)) (show m * 2 + 1 < A.length * 2 by omega) (.int .u64 c.rank)
            rw [clC_set] at hn
            have HRW : Hid (RefAt ((w5.setCell ⟨g, m * 2, none⟩ (.string c.key)).setCell ⟨g, m * 2 + 1, none⟩ (.int .u64 c.rank)) B p cap (.slice (some ⟨g, 0, none⟩) A.length c1) (A.set m c)) := by
              refine H5.out.rowed (by rw [List.length_set]; exact hn) ((Fr.setCell w5 ⟨g, m * 2, none⟩ _).wide (Fr.setCell _ ⟨g, m * 2 + 1, none⟩ _) (fun i hi => .inl hi) |>.mono (fun i hi _ => by rw [show i = g from hi]; rfl)) (by rw [List.length_set]; omega) rfl
            have HFN : Hid (Fr (fun i => i = p ∨ (Value.slice (some ⟨g, 0, none⟩) A.length c1).ownBlock = some i) w ((w5.setCell ⟨g, m * 2, none⟩ (.string c.key)).setCell ⟨g, m * 2 + 1, none⟩ (.int .u64 c.rank))) :=
              ((HF5.out.mono (fun _ h _ => h.elim)).wide (Fr.setCell w5 ⟨g, m * 2, none⟩ _) (fun i hi => .inl (.inr (by rw [show i = g from hi]; rfl)))).wide (Fr.setCell _ ⟨g, m * 2 + 1, none⟩ _) (fun i hi => .inl (.inr (by rw [show i = g from hi]; rfl)))
            have hgx : g ≠ w.heap.size := fun e => by have := HPG.out g rfl; omega
            clear hlt2 hn hbx5
            go_wp2_with fail
            go_region
            all_goals
              go_wp2_with fail
              go_ret
              exact ⟨_, A.set m c, true, rfl, .inr (.inr ⟨HNO.out, hcap, m, hm, HMX.out, .inl ⟨by rw [HY.out]; exact HL2.out, rfl, rfl⟩⟩), HRW.out.quiet (Fr.drew _ _), fun g hg => .inl hg, HFN.out.thenDrew⟩
          · have HL2 := Lib.hid hlt2
            rw [decide_eq_false hlt2]
            clear hlt2 hbx5
            go_wp2_with fail
            go_ret
            exact ⟨_, A, false, rfl, .inr (.inr ⟨HNO.out, hcap, m, hm, HMX.out, .inr ⟨by rw [HY.out]; exact HL2.out, rfl, rfl⟩⟩), H5.out, fun g hg => .inl hg, HF5.out.mono (fun _ h _ => h.elim)⟩
  · have HK := Lib.hid hk
    have hO := H2.out.row
    obtain ⟨-, ⟨h9, h99⟩ | ⟨g, rc, cur, he, _⟩⟩ := hO
    · omega
    cases he
    have hi0 : (0 : Int) ≤ (i : Int) := by omega
    have hi1 : (i : Int) < (A.length : Int) := by omega
    obtain ⟨⟨z1, y1⟩, yf1, hgl⟩ := row_cell H2.out.row (show i * 2 + 1 < A.length * 2 by omega)
    have hn := own_putK H2.out.row (show i * 2 + 1 < A.length * 2 by omega) (.int .u64 c.rank)
    rw [clC_set1 A i hi, hk] at hn
    have HRW : Hid (RefAt (w2.setCell ⟨g, i * 2 + 1, none⟩ (.int .u64 c.rank)) B p cap (.slice (some ⟨g, 0, none⟩) A.length c1) (A.set i c)) := by
      refine H2.out.rowed (by rw [List.length_set]; exact hn) ((Fr.setCell w2 ⟨g, i * 2 + 1, none⟩ _).mono (fun i hi _ => by rw [show i = g from hi]; rfl)) (by rw [List.length_set]; exact H2.out.len) rfl
    have HFN : Hid (Fr (fun i => i = p ∨ (Value.slice (some ⟨g, 0, none⟩) A.length c1).ownBlock = some i) w (w2.setCell ⟨g, i * 2 + 1, none⟩ (.int .u64 c.rank))) :=
      (HF2.out.mono (fun _ h _ => h.elim)).wide (Fr.setCell w2 ⟨g, i * 2 + 1, none⟩ _) (fun i hi => .inl (.inr (by rw [show i = g from hi]; rfl)))
    have hgx : g ≠ w.heap.size := fun e => by have := HPG.out g rfl; omega
    have hgp : p ≠ g := fun e => H2.out.pr (by rw [e]; rfl)
    clear hq hk hn
    go_wp2_with fail
    go_region
    all_goals
      go_wp2_with fail
      go_ret
      exact ⟨_, A.set i c, true, rfl, .inl ⟨i, hi, HK.out, rfl, rfl⟩, HRW.out.quiet (Fr.drew _ _), fun g hg => .inl hg, HFN.out.thenDrew⟩
end Go.Proofs.Ytpcjogmikgfgdaa

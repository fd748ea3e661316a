/- The pool: where it lies; New, Clear, Candidates; what a nil pool does. No condition. -/
import Derived.Test.YtpcjogmikgfgdaaSortC
import Derived.Test.YtpcjogmikgfgdaaSess
namespace Go.Proofs.Ytpcjogmikgfgdaa
open Go.RowKit
/-- a pool of so many at most, these candidates -/
structure PoolAt (w : World) (B p : Nat) (cap : Nat) (vr : Value) (l : List Cd) : Prop where
  blk : w.heap[p]? = some (.cells #[.int .i64 cap, vr] 106 (0, 0))
  row : w.ownsRow B 73 2 vr l.length (clC l)
  bp : B ≤ p
  len : l.length ≤ 17
  cap1 : 1 ≤ cap
  cap2 : cap ≤ 16
section
variable {w w' : World} {B p cap : Nat} {vr vr' : Value} {l l' : List Cd} {T : Nat → Prop}
theorem PoolAt.lt (h : PoolAt w B p cap vr l) : p < w.heap.size := (Array.getElem?_eq_some_iff.1 h.blk).1
theorem PoolAt.pr (h : PoolAt w B p cap vr l) : vr.ownBlock ≠ some p := by
  intro e
  obtain ⟨_, _, cs, hc⟩ := own_blk h.row e
  rw [h.blk] at hc
  simp only [Option.some.injEq, Obj.cells.injEq] at hc
  exact absurd hc.2.1 (by decide)
theorem PoolAt.cell (h : PoolAt w B p cap vr l) (i : Nat) : w.cell? ⟨p, i, none⟩ = (#[.int .i64 cap, vr] : Array Value)[i]? := cell_of_blk h.blk i
theorem PoolAt.free (h : PoolAt w B p cap vr l) (i : Nat) : w.frozen? ⟨p, i, none⟩ = false := free_of_blk h.blk i
theorem PoolAt.fr (h : PoolAt w B p cap vr l) (hf : Fr T w w') (hT : ∀ k, T k → k ≠ p ∧ vr.ownBlock ≠ some k) : PoolAt w' B p cap vr l :=
  ⟨(hf.block p h.lt (fun e => (hT p e).1 rfl)).trans h.blk, owns_fr h.row hf (fun g hg e => (hT g e).2 hg), h.bp, h.len, h.cap1, h.cap2⟩
theorem PoolAt.quiet (h : PoolAt w B p cap vr l) (hf : Fr (fun _ => False) w w') : PoolAt w' B p cap vr l := h.fr hf (fun _ h => h.elim)
theorem PoolAt.later (h : PoolAt w B p cap vr l) (hb : Below w.heap.size w w') : PoolAt w' B p cap vr l :=
  h.quiet ⟨hb.os, hb.tape, hb.output, hb.size, fun k hk _ => hb.block k hk⟩
/-- the row turned, its block alone -/
theorem PoolAt.rowed (h : PoolAt w B p cap vr l) (hr : w'.ownsRow B 73 2 vr' l'.length (clC l')) (hf : Fr (fun i => vr.ownBlock = some i) w w') (hl : l'.length ≤ 17) (hv : vr' = vr) : PoolAt w' B p cap vr' l' :=
  ⟨by rw [hv]; exact (hf.block p h.lt h.pr).trans h.blk, hr, h.bp, hl, h.cap1, h.cap2⟩
/-- another row stored -/
theorem PoolAt.stored (h : w.heap[p]? = some (.cells #[.int .i64 cap, vr] 106 (0, 0))) (hr : w.ownsRow B 73 2 vr' l'.length (clC l')) (hp : B ≤ p) (hl : l'.length ≤ 17) (h1 : 1 ≤ cap) (h2 : cap ≤ 16) : PoolAt (w.setCell ⟨p, 1, none⟩ vr') B p cap vr' l' := by
  have hb := heap_setCell_same w p 1 _ _ vr' h
  have hne : vr'.ownBlock ≠ some p := by
    intro e
    obtain ⟨_, _, cs, hc⟩ := own_blk hr e
    rw [h] at hc
    simp only [Option.some.injEq, Obj.cells.injEq] at hc
    exact absurd hc.2.1 (by decide)
  exact ⟨hb, owns_fr hr (Fr.setCell w ⟨p, 1, none⟩ vr') (fun g hg e => hne (by rw [hg]; exact congrArg some e)), hp, hl, h1, h2⟩
end
def NewPoolPost (w : World) (n : Nat) (e : Ending) (w' : World) : Prop := ∃ p, e = .returned (.tuple #[.pointer (some ⟨p, 0, none⟩), .int .i64 0]) ∧ PoolAt w' w.heap.size p n (.slice none 0 0) [] ∧ Below w.heap.size w w'
theorem newPool_any (w : World) (n : Nat) (h1 : 1 ≤ n) (h2 : n ≤ 16) : Calls Try.prog 44 #[.int .i64 n] w (NewPoolPost w n) := by
  have g1 : decide ((n : Int) < 1) = false := by rw [decide_eq_false_iff_not]; omega
  have g2 : decide ((16 : Int) < (n : Int)) = false := by rw [decide_eq_false_iff_not]; omega
  go_enter Try.func44, Try.ntmps44
  go_wp2
  go_ret2
  exact ⟨w.heap.size, rfl, ⟨alloc_at _ _, World.ownsRow_nil _ _ _ _, Nat.le_refl _, by simp, h1, h2⟩, (Below.refl _ _).alloc (Nat.le_refl _) _⟩
theorem newPool_bad (w : World) (n : Int) (h : n < 1 ∨ 16 < n) : Calls Try.prog 44 #[.int .i64 n] w fun e w' => e = .returned (.tuple #[.pointer none, .int .i64 3]) ∧ w = w' := by
  rcases h with h | h
  · have g1 : decide (n < 1) = true := by rw [decide_eq_true_eq]; exact h
    go_enter Try.func44, Try.ntmps44
    go_wp2
    go_ret2
    exact ⟨rfl, rfl⟩
  · have g1 : decide (n < 1) = false := by rw [decide_eq_false_iff_not]; omega
    have g2 : decide (16 < n) = true := by rw [decide_eq_true_eq]; exact h
    go_enter Try.func44, Try.ntmps44
    go_wp2
    go_ret2
    exact ⟨rfl, rfl⟩
section
variable (w : World) (B p cap : Nat) (vr : Value) (l : List Cd) (h : PoolAt w B p cap vr l)
include h
theorem clear_any : Calls Try.prog 55 #[.pointer (some ⟨p, 0, none⟩)] w fun e w' => (∃ v, e = .returned v) ∧ PoolAt w' B p cap (.slice none 0 0) [] ∧ Fr (fun k => k = p) w w' := by
  have c1 : w.cell? ⟨p, 1, none⟩ = some vr := h.cell 1
  have f1 : w.frozen? ⟨p, 1, none⟩ = false := h.free 1
  have H := Lib.hid h
  clear h
  go_enter Try.func55, Try.ntmps55
  go_wp2
  go_end0
  exact ⟨⟨_, rfl⟩, PoolAt.stored H.out.blk (World.ownsRow_nil _ _ _ _) H.out.bp (by simp) H.out.cap1 H.out.cap2, Fr.setCell w ⟨p, 1, none⟩ _⟩
end
theorem infoC : (Try.prog.info? 73).map (fun i => (i.zero, i.size, i.bytes)) = some (some (.agg #[.string ⟨#[]⟩, .int .u64 0]), 2, 24) := by kernel_rfl
theorem one_C (l : List Cd) : ∀ u ∈ clC l, u.oneCell' = true := by
  intro u hu
  obtain ⟨c, _, hc⟩ := List.mem_flatMap.1 hu
  simp [encC] at hc
  rcases hc with rfl | rfl <;> rfl
end Go.Proofs.Ytpcjogmikgfgdaa

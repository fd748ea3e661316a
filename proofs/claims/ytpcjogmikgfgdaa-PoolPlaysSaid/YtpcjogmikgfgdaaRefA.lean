/- The reference's pool (pantryref14): where it lies; New, Clear, at, Sooner. No condition. -/
import Derived.Test.YtpcjogmikgfgdaaPlayP
namespace Go.Proofs.Ytpcjogmikgfgdaa
open Go.RowKit Go.Sort
/-- the reference's pool -/
structure RefAt (w : World) (B p : Nat) (cap : Nat) (vr : Value) (l : List Cd) : Prop where
  blk : w.heap[p]? = some (.cells #[.int .i64 cap, vr] 112 (0, 0))
  row : w.ownsRow B 73 2 vr l.length (clC l)
  bp : B ≤ p
  len : l.length ≤ 17
  cap1 : 1 ≤ cap
  cap2 : cap ≤ 16
section
variable {w w' : World} {B p cap : Nat} {vr vr' : Value} {l l' : List Cd} {T : Nat → Prop}
theorem RefAt.lt (h : RefAt w B p cap vr l) : p < w.heap.size := (Array.getElem?_eq_some_iff.1 h.blk).1
theorem RefAt.pr (h : RefAt w B p cap vr l) : vr.ownBlock ≠ some p := by
  intro e
  obtain ⟨_, _, cs, hc⟩ := own_blk h.row e
  rw [h.blk] at hc
  simp only [Option.some.injEq, Obj.cells.injEq] at hc
  exact absurd hc.2.1 (by decide)
theorem RefAt.cell (h : RefAt w B p cap vr l) (i : Nat) : w.cell? ⟨p, i, none⟩ = (#[.int .i64 cap, vr] : Array Value)[i]? := cell_of_blk h.blk i
theorem RefAt.free (h : RefAt w B p cap vr l) (i : Nat) : w.frozen? ⟨p, i, none⟩ = false := free_of_blk h.blk i
theorem RefAt.fr (h : RefAt w B p cap vr l) (hf : Fr T w w') (hT : ∀ k, T k → k ≠ p ∧ vr.ownBlock ≠ some k) : RefAt w' B p cap vr l :=
  ⟨(hf.block p h.lt (fun e => (hT p e).1 rfl)).trans h.blk, owns_fr h.row hf (fun g hg e => (hT g e).2 hg), h.bp, h.len, h.cap1, h.cap2⟩
theorem RefAt.quiet (h : RefAt w B p cap vr l) (hf : Fr (fun _ => False) w w') : RefAt w' B p cap vr l := h.fr hf (fun _ h => h.elim)
theorem RefAt.later (h : RefAt w B p cap vr l) (hb : Below w.heap.size w w') : RefAt w' B p cap vr l :=
  h.quiet ⟨hb.os, hb.tape, hb.output, hb.size, fun k hk _ => hb.block k hk⟩
/-- the row turned, its block alone -/
theorem RefAt.rowed (h : RefAt w B p cap vr l) (hr : w'.ownsRow B 73 2 vr' l'.length (clC l')) (hf : Fr (fun i => vr.ownBlock = some i) w w') (hl : l'.length ≤ 17) (hv : vr' = vr) : RefAt w' B p cap vr' l' :=
  ⟨by rw [hv]; exact (hf.block p h.lt h.pr).trans h.blk, hr, h.bp, hl, h.cap1, h.cap2⟩
/-- another row stored -/
theorem RefAt.stored (h : w.heap[p]? = some (.cells #[.int .i64 cap, vr] 112 (0, 0))) (hr : w.ownsRow B 73 2 vr' l'.length (clC l')) (hp : B ≤ p) (hl : l'.length ≤ 17) (h1 : 1 ≤ cap) (h2 : cap ≤ 16) : RefAt (w.setCell ⟨p, 1, none⟩ vr') B p cap vr' l' := by
  have hb := heap_setCell_same w p 1 _ _ vr' h
  have hne : vr'.ownBlock ≠ some p := by
    intro e
    obtain ⟨_, _, cs, hc⟩ := own_blk hr e
    rw [h] at hc
    simp only [Option.some.injEq, Obj.cells.injEq] at hc
    exact absurd hc.2.1 (by decide)
  exact ⟨hb, owns_fr hr (Fr.setCell w ⟨p, 1, none⟩ vr') (fun g hg e => hne (by rw [hg]; exact congrArg some e)), hp, hl, h1, h2⟩
end
set_option maxRecDepth 100000 in
set_option maxHeartbeats 1000000 in
theorem soonerR_any (a b : Cd) (w : World) : Calls Try.prog 100 #[.agg #[.string a.key, .int .u64 a.rank], .agg #[.string b.key, .int .u64 b.rank]] w fun e w' => e = .returned (.bool (decide (ltC a b))) ∧ Fr (fun _ => False) w w' := by
  obtain ⟨r, hr⟩ : ∃ r, decide (ltC a b) = r := ⟨_, rfl⟩
  rw [hr]
  have hlt : r = (decide (a.rank < b.rank) || (decide (a.rank = b.rank) && Op.bytesLess a.key.toList b.key.toList)) := by
    rw [← hr, bytesLess_eq, Bool.eq_iff_iff, decide_eq_true_eq, Bool.or_eq_true, Bool.and_eq_true, decide_eq_true_eq, decide_eq_true_eq, decide_eq_true_eq]
    rfl
  have HL := Lib.hid hlt
  obtain ⟨ka, ra⟩ := a
  obtain ⟨kb, rb⟩ := b
  clear hr hlt
  dsimp only at HL ⊢
  go_enter Try.func100, Try.ntmps100
  by_cases h1 : ra < rb
  · have g1 : decide ((ra : Int) < (rb : Int)) = true := by rw [decide_eq_true_eq]; omega
    have g1n : decide (ra < rb) = true := decide_eq_true h1
    have hrt : r = true := by rw [HL.out, decide_eq_true h1]; rfl
    subst hrt
    clear h1
    go_wp2
    go_ret
    exact ⟨rfl, (Fr.alloc _ _ _).thenAlloc _⟩
  · have g1 : decide ((ra : Int) < (rb : Int)) = false := by rw [decide_eq_false_iff_not]; omega
    have g1n : decide (ra < rb) = false := decide_eq_false h1
    by_cases h2 : ra = rb
    · have g2 : ((ra : Int) == (rb : Int)) = true := by rw [beq_iff_eq]; omega
      have g2n : (ra == rb) = true := beq_iff_eq.2 h2
      have g2d : decide (ra = rb) = true := decide_eq_true h2
      have hrt : r = Op.bytesLess ka.toList kb.toList := by rw [HL.out, decide_eq_false h1, decide_eq_true h2]; rfl
      subst hrt
      clear h1 h2
      go_wp2
      go_ret
      exact ⟨rfl, (Fr.alloc _ _ _).thenAlloc _⟩
    · have g2 : ((ra : Int) == (rb : Int)) = false := by rw [beq_eq_false_iff_ne]; omega
      have g2n : (ra == rb) = false := beq_eq_false_iff_ne.2 h2
      have g2d : decide (ra = rb) = false := decide_eq_false h2
      have hrt : r = false := by rw [HL.out, decide_eq_false h1, decide_eq_false h2]; rfl
      subst hrt
      clear h1 h2
      go_wp2
      go_ret
      exact ⟨rfl, (Fr.alloc _ _ _).thenAlloc _⟩
def NewRefPost (w : World) (n : Nat) (e : Ending) (w' : World) : Prop := ∃ p, e = .returned (.tuple #[.pointer (some ⟨p, 0, none⟩), .int .i64 0]) ∧ RefAt w' w.heap.size p n (.slice none 0 0) [] ∧ Below w.heap.size w w'
theorem newRef_any (w : World) (n : Nat) (h1 : 1 ≤ n) (h2 : n ≤ 16) : Calls Try.prog 52 #[.int .i64 n] w (NewRefPost w n) := by
  have g1 : decide ((n : Int) < 1) = false := by rw [decide_eq_false_iff_not]; omega
  have g2 : decide ((16 : Int) < (n : Int)) = false := by rw [decide_eq_false_iff_not]; omega
  go_enter Try.func52, Try.ntmps52
  go_wp2
  go_ret2
  exact ⟨w.heap.size, rfl, ⟨alloc_at _ _, World.ownsRow_nil _ _ _ _, Nat.le_refl _, by simp, h1, h2⟩, (Below.refl _ _).alloc (Nat.le_refl _) _⟩
theorem newRef_bad (w : World) (n : Int) (h : n < 1 ∨ 16 < n) : Calls Try.prog 52 #[.int .i64 n] w fun e w' => e = .returned (.tuple #[.pointer none, .int .i64 3]) ∧ w = w' := by
  rcases h with h | h
  · have g1 : decide (n < 1) = true := by rw [decide_eq_true_eq]; exact h
    go_enter Try.func52, Try.ntmps52
    go_wp2
    go_ret2
    exact ⟨rfl, rfl⟩
  · have g1 : decide (n < 1) = false := by rw [decide_eq_false_iff_not]; omega
    have g2 : decide (16 < n) = true := by rw [decide_eq_true_eq]; exact h
    go_enter Try.func52, Try.ntmps52
    go_wp2
    go_ret2
    exact ⟨rfl, rfl⟩
section
variable (w : World) (B p cap : Nat) (vr : Value) (l : List Cd) (h : RefAt w B p cap vr l)
include h
theorem clearR_any : Calls Try.prog 86 #[.pointer (some ⟨p, 0, none⟩)] w fun e w' => (∃ v, e = .returned v) ∧ RefAt w' B p cap (.slice none 0 0) [] ∧ Fr (fun k => k = p) w w' := by
  have c1 : w.cell? ⟨p, 1, none⟩ = some vr := h.cell 1
  have f1 : w.frozen? ⟨p, 1, none⟩ = false := h.free 1
  have H := Lib.hid h
  clear h
  go_enter Try.func86, Try.ntmps86
  go_wp2
  go_end0
  exact ⟨⟨_, rfl⟩, RefAt.stored H.out.blk (World.ownsRow_nil _ _ _ _) H.out.bp (by simp) H.out.cap1 H.out.cap2, Fr.setCell w ⟨p, 1, none⟩ _⟩
end
def AtPost (w : World) (l : List Cd) (k : ByteArray) (e : Ending) (w' : World) : Prop :=
  ((e = .returned (.int .i64 (-1)) ∧ ∀ c ∈ l, c.key ≠ k) ∨ (∃ j, ∃ h : j < l.length, e = .returned (.int .i64 j) ∧ l[j].key = k)) ∧ Fr (fun _ => False) w w'
set_option maxHeartbeats 1000000 in
theorem at_any (w : World) (B p cap : Nat) (vr : Value) (l : List Cd) (k : ByteArray) (h : RefAt w B p cap vr l) :
    Calls Try.prog 99 #[.pointer (some ⟨p, 0, none⟩), .string k] w (AtPost w l k) := by
  have c1 : w.cell? ⟨p, 1, none⟩ = some vr := h.cell 1
  have H := Lib.hid h
  have hll := h.len
  obtain ⟨a, c, rfl⟩ := owns_sliceN h.row
  clear h
  go_enter Try.func99, Try.ntmps99
  go_wp2_with fail
  go_loopw [12] (fun i wr => ∃ j : Nat, i = .int .i64 j ∧ j ≤ l.length ∧ Hid (∀ c ∈ l.take j, c.key ≠ k) ∧ Hid (Fr (fun _ => False) w wr)) (fun i _ => l.length - (intOf i).toNat)
  case atStart => exact ⟨0, rfl, by omega, fun c hc => by simp at hc, Fr.refl _ _⟩
  case round =>
    obtain ⟨j, rfl, hj, HN, HF⟩ := hrel
    obtain ⟨wo, rfl⟩ : ∃ x, x = wr := ⟨_, rfl⟩
    by_cases hlt : j < l.length
    · obtain ⟨g, off, rfl, d0, d1⟩ := cd_at ((RdC.of_owns H.out.row).fr HF.out (fun _ _ h => h)) j hlt
      have hb0 : (0 : Int) ≤ (j : Int) := by omega
      have hb1 : (j : Int) < (l.length : Int) := by omega
      obtain ⟨cj, hcj⟩ : ∃ c, l[j] = c := ⟨_, rfl⟩
      rw [hcj] at d0 d1
      have HCJ := Lib.hid hcj
      have HFA := Lib.hid (HF.out.thenAlloc (.cells #[.string cj.key, .int .u64 cj.rank] 73))
      clear hcj
      by_cases hq : cj.key = k
      · have hqb : (cj.key.toList == k.toList) = true := by rw [str_beq]; simpa using hq
        have hqt : cj.key.toList = k.toList := beq_iff_eq.1 hqb
        have HQ := Lib.hid hq
        clear hq
        go_wp2_with fail
        go_ret
        exact ⟨.inr ⟨j, hlt, rfl, by rw [HCJ.out]; exact HQ.out⟩, HFA.out⟩
      · have hqb : (cj.key.toList == k.toList) = false := by rw [str_beq]; simpa using hq
        have hqt : ¬ cj.key.toList = k.toList := beq_eq_false_iff_ne.1 hqb
        have HQ : Hid (∀ c ∈ l.take (j + 1), c.key ≠ k) := fun c hc => by
          rw [List.take_succ_eq_append_getElem hlt, List.mem_append, List.mem_singleton] at hc
          rcases hc with hc | hc
          · exact HN.out c hc
          · rw [hc, HCJ.out]; exact hq
        clear hq
        go_wp2_with fail
        go_roundw
        case rel => exact ⟨j + 1, by go_num, by omega, HQ, HFA.out⟩
        case measure => simp [intOf]; omega
    · obtain rfl : j = l.length := by omega
      go_wp2_with fail
      go_ret
      exact ⟨.inl ⟨rfl, by have := HN.out; rwa [List.take_length] at this⟩, HF.out⟩
theorem clC_set1 (M : List Cd) (i : Nat) (hi : i < M.length) (r : Nat) : (clC M).set (i * 2 + 1) (.int .u64 r) = clC (M.set i ⟨M[i].key, r⟩) := by
  rw [← clC_set M i ⟨M[i].key, r⟩]
  congr 1
  refine List.ext_getElem? (fun j => ?_)
  rw [List.getElem?_set]
  split
  · rename_i e
    subst e
    have h := flat_at encC 2 (fun _ => rfl) M i 0 hi (by decide)
    rw [if_pos (by rw [clC_len]; omega)]
    exact h.trans rfl
  · rfl
/-- a row's cells: they are there, and may be written -/
theorem row_cell {w : World} {B g n cap i : Nat} {l : List Cd} (h : w.ownsRow B 73 2 (.slice (some ⟨g, 0, none⟩) n cap) n (clC l)) (hi : i < n * 2) : (∃ q, w.cell? ⟨g, i, none⟩ = some q) ∧ w.frozen? ⟨g, i, none⟩ = false ∧ g < w.heap.size := by
  obtain ⟨-, ⟨h9, _⟩ | ⟨g9, cap9, cur9, he9, _, hb9, k91, _, k93, _⟩⟩ := h
  · cases h9
  cases he9
  exact ⟨⟨cur9[i]'(by omega), by rw [cell_of_blk hb9]; exact Array.getElem?_eq_getElem _⟩, free_of_blk hb9 _, (Array.getElem?_eq_some_iff.1 hb9).1⟩
end Go.Proofs.Ytpcjogmikgfgdaa

/- The pool's order: cmp.Compare at uint64 and string, cmp.Or, pool.sooner, the sort's premise. No condition. -/
import Derived.Test.YtpcjogmikgfgdaaSMap
import Derived.Test.YtpcjogmikgfgdaaShelfC
import Derived.Deep.RegionWith
import Derived.StillTailTactics
import Derived.Laws.Cover1
namespace Go.Proofs.Ytpcjogmikgfgdaa
open Go.RowKit Go.Sort
/-- a candidate -/
structure Cd where
  key : ByteArray
  rank : Nat
  deriving Inhabited
def encC (c : Cd) : List Value := [.string c.key, .int .u64 c.rank]
def cmpU (x y : Nat) : Int := if x < y then -1 else if y < x then 1 else 0
def cmpS (x y : ByteArray) : Int := if Op.bytesLess x.toList y.toList then -1 else if (x.toList == y.toList) then 0 else 1
def cfC (a b : Cd) : Int := if cmpU a.rank b.rank = 0 then cmpS a.key b.key else cmpU a.rank b.rank
theorem nanU_any (x : Nat) (w : World) : Calls Try.prog 120 #[.int .u64 x] w fun e w' => e = .returned (.bool false) ∧ w = w' := by
  go_enter Try.func120, Try.ntmps120
  go_wp2
  go_ret
  exact ⟨rfl, rfl⟩
theorem nanS_any (x : ByteArray) (w : World) : Calls Try.prog 121 #[.string x] w fun e w' => e = .returned (.bool false) ∧ w = w' := by
  have hx : (x.toList == x.toList) = true := by rw [str_beq]; simp
  go_enter Try.func121, Try.ntmps121
  go_wp2
  go_ret
  exact ⟨rfl, rfl⟩
theorem cmpU_any (x y : Nat) (w : World) : Calls Try.prog 96 #[.int .u64 x, .int .u64 y] w fun e w' => e = .returned (.int .i64 (cmpU x y)) ∧ w = w' := by
  have H : Hid (cmpU x y = if x < y then -1 else if y < x then 1 else 0) := rfl
  obtain ⟨r, hr⟩ : ∃ r, cmpU x y = r := ⟨_, rfl⟩
  rw [hr] at H ⊢
  clear hr
  go_enter Try.func96, Try.ntmps96
  go_wp2_with fail
  refine (nanU_any _ _).mono ?_
  rintro e w' ⟨rfl, rfl⟩
  go_wp2_with fail
  refine (nanU_any _ _).mono ?_
  rintro e w' ⟨rfl, rfl⟩
  by_cases h1 : x < y
  · have g1 : decide ((x : Int) < (y : Int)) = true := by rw [decide_eq_true_eq]; omega
    obtain rfl : r = -1 := by rw [H.out, if_pos h1]
    go_wp2
    go_ret
    exact ⟨rfl, rfl⟩
  · have g1 : decide ((x : Int) < (y : Int)) = false := by rw [decide_eq_false_iff_not]; omega
    by_cases h2 : y < x
    · have g2 : decide ((y : Int) < (x : Int)) = true := by rw [decide_eq_true_eq]; omega
      obtain rfl : r = 1 := by rw [H.out, if_neg h1, if_pos h2]
      go_wp2
      go_ret
      exact ⟨rfl, rfl⟩
    · have g2 : decide ((y : Int) < (x : Int)) = false := by rw [decide_eq_false_iff_not]; omega
      obtain rfl : r = 0 := by rw [H.out, if_neg h1, if_neg h2]
      go_wp2
      go_ret
      exact ⟨rfl, rfl⟩
theorem cmpS_any (x y : ByteArray) (w : World) : Calls Try.prog 97 #[.string x, .string y] w fun e w' => e = .returned (.int .i64 (cmpS x y)) ∧ w = w' := by
  have H : Hid (cmpS x y = if Op.bytesLess x.toList y.toList then -1 else if (x.toList == y.toList) then 0 else 1) := rfl
  obtain ⟨r, hr⟩ : ∃ r, cmpS x y = r := ⟨_, rfl⟩
  rw [hr] at H ⊢
  clear hr
  go_enter Try.func97, Try.ntmps97
  go_wp2_with fail
  refine (nanS_any _ _).mono ?_
  rintro e w' ⟨rfl, rfl⟩
  go_wp2_with fail
  refine (nanS_any _ _).mono ?_
  rintro e w' ⟨rfl, rfl⟩
  cases g1 : Op.bytesLess x.toList y.toList
  · cases g2 : (x.toList == y.toList)
    · obtain rfl : r = 1 := by rw [H.out, g1, g2]; rfl
      go_wp2
      go_ret
      exact ⟨rfl, rfl⟩
    · obtain rfl : r = 0 := by rw [H.out, g1, g2]; rfl
      go_wp2
      go_ret
      exact ⟨rfl, rfl⟩
  · obtain rfl : r = -1 := by rw [H.out, g1]; rfl
    go_wp2
    go_ret
    exact ⟨rfl, rfl⟩
set_option maxHeartbeats 1000000 in
theorem or_any (x y : Int) (g : Nat) (w : World) (h0 : w.cell? ⟨g, 0, none⟩ = some (.int .i64 x)) (h1 : w.cell? ⟨g, 1, none⟩ = some (.int .i64 y)) :
    Calls Try.prog 95 #[.slice (some ⟨g, 0, none⟩) 2 2] w fun e w' => e = .returned (.int .i64 (if x = 0 then y else x)) ∧ w = w' := by
  obtain ⟨r, hr⟩ : ∃ r, (if x = 0 then y else x) = r := ⟨_, rfl⟩
  rw [hr]
  have H := Lib.hid hr
  clear hr
  go_enter Try.func95, Try.ntmps95
  go_wp2
  go_loop [8] (fun i => ∃ k : Nat, i = .int .i64 k ∧ k ≤ 2 ∧ (1 ≤ k → x = 0) ∧ (2 ≤ k → y = 0)) (fun i => 2 - (intOf i).toNat)
  case atStart => exact ⟨0, rfl, by omega, by omega, by omega⟩
  case round =>
    obtain ⟨k, rfl, hk, hx, hy⟩ := hrel
    rcases (by omega : k = 0 ∨ k = 1 ∨ k = 2) with rfl | rfl | rfl
    · clear hx hy
      by_cases hz : x = 0
      · have gz : (x == 0) = true := beq_iff_eq.2 hz
        go_wp2
        go_round
        case rel => exact ⟨1, by go_num, by omega, fun _ => hz, by omega⟩
        case measure => simp [intOf]
      · have gz : (x == 0) = false := beq_eq_false_iff_ne.2 hz
        obtain rfl : x = r := by have := H.out; rwa [if_neg hz] at this
        go_wp2
        go_ret
        exact ⟨rfl, rfl⟩
    · have hx0 := hx (by omega)
      clear hx hy
      obtain rfl : y = r := by have := H.out; rwa [if_pos hx0] at this
      by_cases hz : y = 0
      · have gz : (y == 0) = true := beq_iff_eq.2 hz
        go_wp2
        go_round
        case rel => exact ⟨2, by go_num, by omega, fun _ => hx0, fun _ => hz⟩
        case measure => simp [intOf]
      · have gz : (y == 0) = false := beq_eq_false_iff_ne.2 hz
        go_wp2
        go_ret
        exact ⟨rfl, rfl⟩
    · have hx0 := hx (by omega)
      have hy0 := hy (by omega)
      clear hx hy
      have hr0 : r = 0 := by have := H.out; rw [if_pos hx0] at this; rw [← this, hy0]
      go_wp2
      go_ret
      exact ⟨rfl, rfl⟩
theorem or_new (x y : Int) (w0 : World) : Calls Try.prog 95 #[.slice (some ⟨w0.heap.size, 0, none⟩) 2 2] (w0.alloc (.cells #[.int .i64 x, .int .i64 y] 3)) fun e w' => e = .returned (.int .i64 (if x = 0 then y else x)) ∧ w0.alloc (.cells #[.int .i64 x, .int .i64 y] 3) = w' := by
  have h := alloc_at w0 (.cells #[.int .i64 x, .int .i64 y] 3)
  exact or_any x y _ _ ((cell_of_blk h 0).trans rfl) ((cell_of_blk h 1).trans rfl)
set_option maxRecDepth 100000 in
set_option maxHeartbeats 2000000 in
theorem sooner_any (a b : Cd) (W : World) : Calls Try.prog 78 #[.agg #[.string a.key, .int .u64 a.rank], .agg #[.string b.key, .int .u64 b.rank]] W fun e w' => e = .returned (.int .i64 (cfC a b)) ∧ ∃ q os', w' = grow (W.drewN q) os' := by
  obtain ⟨x, hx⟩ : ∃ x, cmpU a.rank b.rank = x := ⟨_, rfl⟩
  obtain ⟨y, hy⟩ : ∃ y, cmpS a.key b.key = y := ⟨_, rfl⟩
  obtain ⟨r, hr⟩ : ∃ r, cfC a b = r := ⟨_, rfl⟩
  have HR : Hid (r = if x = 0 then y else x) := by show _ = _; rw [← hr, ← hx, ← hy]; rfl
  obtain ⟨ka, ra⟩ := a
  obtain ⟨kb, rb⟩ := b
  have hcU : ∀ W', Calls Try.prog 96 #[.int .u64 ra, .int .u64 rb] W' fun e w' => e = .returned (.int .i64 (cmpU ra rb)) ∧ w' = W' := fun W' => (cmpU_any ra rb W').mono fun _ _ h => ⟨h.1, h.2.symm⟩
  have hcS : ∀ W', Calls Try.prog 97 #[.string ka, .string kb] W' fun e w' => e = .returned (.int .i64 (cmpS ka kb)) ∧ w' = W' := fun W' => (cmpS_any ka kb W').mono fun _ _ h => ⟨h.1, h.2.symm⟩
  dsimp only at hx hy
  rw [hx] at hcU
  rw [hy] at hcS
  rw [hr]
  clear hx hy hr
  go_enter Try.func78, Try.ntmps78
  go_upto_region 1 with fail
  refine wp_region_still_tail 10 (by kernel_rfl) (by kernel_rfl) ?_
  simp only [List.take_succ_cons, List.take_zero, List.drop_succ_cons, List.drop_zero]
  obtain ⟨W2, hW2⟩ : ∃ W2 : World, ((W.alloc (.cells #[.string ka, .int .u64 ra] 73)).alloc (.cells #[.string kb, .int .u64 rb] 73)).drew = W2 := ⟨_, rfl⟩
  have hb1 : W2.heap[W.heap.size]? = some (.cells #[.string ka, .int .u64 ra] 73 (0, 0)) := by
    rw [← hW2]
    exact (Below.heap_alloc (W.alloc (.cells #[.string ka, .int .u64 ra] 73)) _ _ (by simp)).trans (alloc_at W (.cells #[.string ka, .int .u64 ra] 73))
  have hb2 : W2.heap[W.heap.size + 1]? = some (.cells #[.string kb, .int .u64 rb] 73 (0, 0)) := by
    rw [← hW2]
    have h := alloc_at (W.alloc (.cells #[.string ka, .int .u64 ra] 73)) (.cells #[.string kb, .int .u64 rb] 73)
    have hs : (W.alloc (.cells #[.string ka, .int .u64 ra] 73)).heap.size = W.heap.size + 1 := by simp
    rw [hs] at h
    exact h
  have a0 : W2.cell? ⟨W.heap.size, 0, none⟩ = some (.string ka) := (cell_of_blk hb1 0).trans rfl
  have a1 : W2.cell? ⟨W.heap.size, 1, none⟩ = some (.int .u64 ra) := (cell_of_blk hb1 1).trans rfl
  have b0 : W2.cell? ⟨W.heap.size + 1, 0, none⟩ = some (.string kb) := (cell_of_blk hb2 0).trans rfl
  have b1 : W2.cell? ⟨W.heap.size + 1, 1, none⟩ = some (.int .u64 rb) := (cell_of_blk hb2 1).trans rfl
  change wpStill _ _ ((W.alloc (.cells #[.string ka, .int .u64 ra] 73)).alloc (.cells #[.string kb, .int .u64 rb] 73)).drew (fun a' => wpList _ _ _ _ a' ((W.alloc (.cells #[.string ka, .int .u64 ra] 73)).alloc (.cells #[.string kb, .int .u64 rb] 73)).drew) _ _
  rw [hW2]
  have HW2 := Lib.hid hW2
  clear hW2 hb1 hb2
  iterate 4 still_step
  still_call (hcU _)
  iterate 4 still_step
  still_call (hcS _)
  refine wpStill_nil ?_
  clear hcU hcS
  go_wp2_with (go_at_call 95; refine (or_new x y W2).mono ?_; rintro e w' ⟨rfl, rfl⟩; rw [← HR.out])
  go_ret
  exact ⟨rfl, 1, _, by rw [← HW2.out, alloc_eq_grow, alloc_eq_grow, alloc_eq_grow]; show grow (grow (grow (W.drewN 1) _) _) _ = _; rw [grow_grow, grow_grow]⟩
end Go.Proofs.Ytpcjogmikgfgdaa

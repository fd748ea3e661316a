/- The walk of pantrylaw04's wakes: it returns true and writes nothing that was there. -/
import Derived.Test.YthiamkfghnopgaaDraw
namespace Go.Proofs.Ythiamkfghnopgaa
open Go.RowKit

theorem hash_a : wd (hash 0 (ByteArray.mk #[97]).data.toList) = 9417481573473063714 := by decide +kernel
theorem hash_a_call (w : World) : Calls Try.prog 9 #[.int .u64 0, .string ⟨#[97]⟩] w fun e w' => e = .returned (.int .u64 9417481573473063714) ∧ w = w' :=
  (hash_any 0 ⟨#[97]⟩ w (by decide)).mono fun e w' ⟨h1, h2⟩ => ⟨by rw [h1, hash_a], h2⟩
theorem below_lit (w : World) (p : Nat) (l : List UInt64) (x y : Int) (n : UInt64) (S : Nat → Prop) (h : SrcAt w p l S) (hx : x = wd n) (hy : wd (below0 (hd0 l) n) = y) :
    Calls Try.prog 16 #[.pointer (some ⟨p, 0, none⟩), .int .u64 x] w fun e w' => e = .returned (.int .u64 y) ∧ SrcAt w' p l.tail S ∧ Fr (fun k => k = p) w w' := by
  subst hx; subst hy; exact below_any w p l n S h
theorem next_lit (w : World) (p : Nat) (l : List UInt64) (y : Int) (S : Nat → Prop) (h : SrcAt w p l S) (hy : wd (hd0 l) = y) :
    Calls Try.prog 15 #[.pointer (some ⟨p, 0, none⟩)] w fun e w' => e = .returned (.int .u64 y) ∧ SrcAt w' p l.tail S ∧ Fr (fun k => k = p) w w' := by
  subst hy; exact next_any w p l S h
theorem rd73 (w : World) : RdC (w.alloc (.cells #[.int .u64 7, .int .u64 3] 22)) 1 (.slice (some ⟨w.heap.size, 0, none⟩) 2 2) 2 ([7, 3].map u64) :=
  RdC.of_owns (World.ownsRow_lit (e := 22) w #[.int .u64 7, .int .u64 3] 2 (Nat.le_refl _) (by decide) rfl)

set_option maxHeartbeats 400000 in
theorem wakes_any (w : World) : Calls Try.prog 20 #[] w fun e w' => e = .returned (.bool true) ∧ Below w.heap.size w w' := by
  go_enter Try.func20, Try.ntmps20
  go_wp2_with fail
  refine (new_any _ [7, 3] _ (rd73 w) (by decide)).mono ?_
  rintro e w1 ⟨p, rfl, hsrc, hbel⟩
  have B1 : Below w.heap.size w w1 := ((Below.refl _ _).alloc (Nat.le_refl _) _).trans (hbel.mono (by simp))
  have hp : w.heap.size < p := by obtain ⟨_, _, _, hS, _⟩ := hsrc; have := hS.1; simp at this; omega
  clear hbel
  go_wp2_with (go_at_call 9; refine (hash_a_call _).mono ?_; rintro e w' ⟨rfl, rfl⟩)
  refine (below_lit _ p _ 5 2 5 _ hsrc rfl rfl).mono ?_
  rintro e w2 ⟨rfl, hsrc2, hfr2⟩
  go_wp2_with fail
  refine (next_lit _ p _ 3 _ hsrc2 rfl).mono ?_
  rintro e w3 ⟨rfl, hsrc3, hfr3⟩
  go_wp2_with fail
  go_ret
  have f2 := hfr2.below (B := w.heap.size) B1.size (fun i hi => by omega)
  have f3 := hfr3.below (B := w.heap.size) (Nat.le_trans B1.size f2.size) (fun i hi => by omega)
  exact ⟨rfl, (B1.trans f2).trans f3⟩
end Go.Proofs.Ythiamkfghnopgaa

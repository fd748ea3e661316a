/- DrawKnown: the chapter's examples. A closed statement. -/
import Derived.Test.YthiamkfghnopgaaDrawWakes
import Derived.Test.YthiamkfghnopgaaWrap
namespace Go.Proofs.Ythiamkfghnopgaa
open Go.RowKit

theorem hash_lit (w : World) (x y : Int) (seed : UInt64) (s : ByteArray) (hs : s.size ≤ maxLen) (hx : x = wd seed) (hy : wd (hash seed s.data.toList) = y) :
    Calls Try.prog 9 #[.int .u64 x, .string s] w fun e w' => e = .returned (.int .u64 y) ∧ w = w' := by
  subst hx; subst hy; exact hash_any seed s w hs
theorem left_lit (w : World) (p : Nat) (l : List UInt64) (S : Nat → Prop) (y : Int) (h : SrcAt w p l S) (hy : (l.length : Int) = y) :
    Calls Try.prog 17 #[.pointer (some ⟨p, 0, none⟩)] w fun e w' => e = .returned (.int .i64 y) ∧ w = w' := by
  subst hy; exact left_any w p l S h

set_option maxHeartbeats 1000000 in
theorem drawKnown_walk (w : World) : Calls Try.prog 8 #[] w fun e w' => e = .returned (.bool true) ∧ Below w.heap.size w w' := by
  go_enter Try.func8, Try.ntmps8
  go_wp2_with fail
  refine (new_any _ [7, 3] _ (rd73 w) (by decide)).mono ?_
  rintro e w1 ⟨p, rfl, hsrc, hbel⟩
  have B1 : Below w.heap.size w w1 := ((Below.refl _ _).alloc (Nat.le_refl _) _).trans (hbel.mono (by simp))
  have hp : w.heap.size < p := by obtain ⟨_, _, _, hS, _⟩ := hsrc; have := hS.1; simp at this; omega
  clear hbel
  go_wp2_with fail
  refine (wakes_any _).mono ?_
  rintro e w2 ⟨rfl, hb2⟩
  have hsrc2 := hsrc.fr (Fr.of_below hb2) (fun k hk => by omega)
  have B2 := B1.trans (hb2.mono B1.size)
  clear hsrc hb2 B1
  go_wp2_with fail
  refine (below_lit _ p _ 5 2 5 _ hsrc2 rfl rfl).mono ?_
  rintro e w3 ⟨rfl, hsrc3, hfr3⟩
  have B3 := B2.trans (hfr3.below (B := w.heap.size) B2.size (fun i hi => by omega))
  clear hsrc2 hfr3 B2
  go_wp2_with fail
  refine (left_lit _ p _ _ 1 hsrc3 rfl).mono ?_
  rintro e w3 ⟨rfl, rfl⟩
  go_wp2_with fail
  refine (below_lit _ p _ 0 0 0 _ hsrc3 rfl rfl).mono ?_
  rintro e w4 ⟨rfl, hsrc4, hfr4⟩
  have B4 := B3.trans (hfr4.below (B := w.heap.size) B3.size (fun i hi => by omega))
  clear hsrc3 hfr4 B3
  go_wp2_with fail
  refine (left_lit _ p _ _ 0 hsrc4 rfl).mono ?_
  rintro e w5 ⟨rfl, rfl⟩
  go_wp2_with fail
  refine (next_lit _ p _ 0 _ hsrc4 rfl).mono ?_
  rintro e w5 ⟨rfl, hsrc5, hfr5⟩
  have B5 := B4.trans (hfr5.below (B := w.heap.size) B4.size (fun i hi => by omega))
  clear hsrc4 hfr5 B4
  go_wp2_with fail
  refine (left_lit _ p _ _ 0 hsrc5 rfl).mono ?_
  rintro e w6 ⟨rfl, rfl⟩
  clear hsrc5
  go_wp2_with fail
  refine (hash_lit _ _ 9615434041927672947 0 _ (by decide) rfl (by decide +kernel)).mono ?_
  rintro e w6 ⟨rfl, rfl⟩
  go_wp2_with fail
  refine (hash_lit _ _ 15918890184967323160 1 _ (by decide) rfl (by decide +kernel)).mono ?_
  rintro e w6 ⟨rfl, rfl⟩
  go_wp2_with fail
  refine (hash_lit _ _ 6757428951546481954 0 _ (by decide) rfl (by decide +kernel)).mono ?_
  rintro e w6 ⟨rfl, rfl⟩
  go_wp2_with fail
  refine (hash_lit _ _ 8203627883128763089 0 _ (by decide) rfl (by decide +kernel)).mono ?_
  rintro e w6 ⟨rfl, rfl⟩
  go_wp2_with fail
  refine (hash_lit _ _ 12634129523333122895 18446744073709551615 _ (by decide) (by decide +kernel) (by decide +kernel)).mono ?_
  rintro e w6 ⟨rfl, rfl⟩
  go_wp2_with fail
  go_ret
  exact ⟨rfl, B5⟩

open Go.ChangeShapes Go.WideShapes Go.ChangeAt Go.RowKit
set_option maxRecDepth 100000 in
theorem drawKnown_lifted (os : Os) (started : os.Started) (H : Type) (enc : TypeId × Value → H) :
    ReturnsInHanded {} Try.checked os 8 .any (Rows.drawKnownSpec.pre6 enc Try.prog Try.f8 Rows.drawKnownRow.domain false) (Rows.drawKnownSpec.post enc Try.prog Try.f8 false true false false) := by
  refine returnsInHanded_of_change_sized (C := Try.checked) own started (by kernel_rfl) Try.func8
    (ChangeSpec.witness6 (enc := enc) (C := Try.checked) false ⟨#[], #[], []⟩ 8 (by kernel_rfl) (by kernel_rfl) (by kernel_rfl) (by kernel_rfl)) ?_
  intro W base args ds gs before hval0 hW hcnd hsz0 _
  have hval : ∀ (j : Nat) t v, Try.f8.params[j]? = some t → args[j]? = some v → Value.okWide Try.prog W .any base t v := hval0
  have hW' := hW
  obtain ⟨p, q, hA0, hV, rfl, hfz, hnd⟩ := hW
  have hA : DataW.TrodAll enc Try.prog W 0 (fun _ => true) true Try.f8.params.toList args.toList ds p := hA0
  rw [Try.params8] at hA hval
  obtain ⟨hargs, rfl, rfl⟩ := trodAll_nil hA
  obtain rfl : args = #[] := by cases args; simp_all
  obtain ⟨rfl, rfl⟩ := trodVars_none hV
  clear hsz0
  clear hA0 hval0
  refine (drawKnown_walk W ).mono fun e W' ⟨he, bel⟩ => ?_
  subst he
  exact ⟨_, rfl, law_post laidOut Try.underlying4 (by kernel_rfl) rfl (by kernel_rfl) hW' rfl bel⟩

theorem drawKnown_holds : Rows.DrawKnownSaid :=
  OpenClaim.holds_of_wide 8 Try.f8 rfl rfl rfl rfl rfl rfl rfl ⟨rfl, rfl, rfl, rfl, rfl⟩ rfl rfl rfl rfl rfl (by kernel_rfl) Try.func8 (by kernel_rfl)
    (of_decide_eq_true (by kernel_rfl)) (by unfold Func.isWrapper; rw [if_neg (of_decide_eq_false (by kernel_rfl))]; exact ⟨rfl, rfl⟩)
    (fun os started H enc _ => drawKnown_lifted os started H enc)
end Go.Proofs.Ythiamkfghnopgaa

/- The pool: the sorted row told; pantrylaw14's wakes. No condition. -/
import Derived.Test.YtpcjogmikgfgdaaPoolG
import Derived.Test.YtpcjogmikgfgdaaSessW
namespace Go.Proofs.Ytpcjogmikgfgdaa
open Go.RowKit Go.Sort
theorem sortC_perm (l : List Cd) : (sortC l).Perm l := List.mergeSort_perm _ _
theorem sortC_pair (l : List Cd) : (sortC l).Pairwise (fun a b => ¬ ltC b a) := by
  have h := List.pairwise_mergeSort (le := fun x y => !ltOf cfC y x) (fun a b c h1 h2 => by
    rw [ltOf_C] at *
    simp only [Bool.not_eq_true', decide_eq_false_iff_not] at *
    intro h3
    by_cases h4 : ltC a b
    · exact h2 (ltC_trans h3 h4)
    · obtain rfl := ltC_total h4 h1
      exact h2 h3) (fun a b => by
    rw [ltOf_C, ltOf_C]
    by_cases h1 : ltC b a
    · have h2 : ¬ ltC a b := fun h => ltC_irrefl _ (ltC_trans h h1)
      simp [h1, h2]
    · simp [h1]) l
  exact h.imp (fun {a b} h => by rw [ltOf_C] at h; simpa using h)
theorem sortC_of {l l' : List Cd} (hp : l.Perm l') (hs : l'.Pairwise ltC) : sortC l = l' := by
  refine List.Perm.eq_of_pairwise (le := fun a b => ¬ ltC b a) (fun a b _ _ h1 h2 => ltC_total h2 h1) (sortC_pair l) (hs.imp (fun {a b} h h2 => ltC_irrefl _ (ltC_trans h h2))) ((sortC_perm l).trans hp)
def cA : Cd := ⟨⟨#[97]⟩, 2⟩
def cB : Cd := ⟨⟨#[98]⟩, 1⟩
theorem s_A : offS [] cA = [cA] := sortC_of (List.Perm.refl _) (List.pairwise_singleton _ _)
theorem s_AB : offS [cA] cB = [cB, cA] := sortC_of (show [cA, cB].Perm [cB, cA] from List.Perm.swap _ _ _) (by decide)
theorem s_BA : offS [cB] cA = [cB, cA] := sortC_of (List.Perm.refl _) (by decide)
theorem b_A : offB 1 [] cA = true := by unfold offB; rw [s_A]; rfl
theorem b_AB : offB 1 [cA] cB = true := by unfold offB; rw [s_AB]; decide +kernel
theorem b_BA : offB 1 [cB] cA = false := by unfold offB; rw [s_BA]; decide +kernel
theorem PoolAt.quietB {w w' : World} {B p cap : Nat} {vr : Value} {l : List Cd} (h : PoolAt w B p cap vr l) (hb : Below w.heap.size w w') : PoolAt w' B p cap vr l := h.later hb
/-- what holds of a pool that the walk has made -/
structure Pw (w : World) (B p cap : Nat) (vr : Value) (l : List Cd) (V : World) : Prop where
  a : PoolAt V B p cap vr l
  bel : Below w.heap.size w V
  hB : w.heap.size ≤ B
section
variable {w V V' : World} {B p cap : Nat} {vr vr' : Value} {l l' : List Cd}
theorem Pw.offer {c : Cd} {e : Ending} (h : Pw w B p cap vr l V) (hq : OfferPost V B p cap vr l c e V') : ∃ vr', e = .returned (.bool (offB cap l c)) ∧ Hid (Pw w B p cap vr' ((offS l c).take cap) V') := by
  obtain ⟨vr', he, hp, _, hf⟩ := hq
  refine ⟨vr', he, hp, h.bel.trans (hf.below h.bel.size (fun i hi => ?_)), h.hB⟩
  rcases hi with hi | hi
  · rw [hi]; exact Nat.le_trans h.hB h.a.bp
  · exact Nat.le_trans h.hB (own_blk h.a.row hi).1
theorem Pw.turn (h : Pw w B p cap vr l V) (hp : PoolAt V' B p cap vr' l') (hf : Fr (fun i => i = p ∨ vr.ownBlock = some i) V V') : Pw w B p cap vr' l' V' := by
  refine ⟨hp, h.bel.trans (hf.below h.bel.size (fun i hi => ?_)), h.hB⟩
  rcases hi with hi | hi
  · rw [hi]; exact Nat.le_trans h.hB h.a.bp
  · exact Nat.le_trans h.hB (own_blk h.a.row hi).1
theorem Pw.quiet (h : Pw w B p cap vr l V) (hf : Fr (fun _ => False) V V') : Pw w B p cap vr l V' := ⟨h.a.quiet hf, h.bel.trans (hf.below h.bel.size (fun _ h => h.elim)), h.hB⟩
end
set_option maxRecDepth 100000 in
set_option maxHeartbeats 2000000 in
theorem wakes14_any (w : World) : Calls Try.prog 43 #[] w fun e w' => e = .returned (.bool true) ∧ Below w.heap.size w w' := by
  go_enter Try.func43, Try.ntmps43
  go_wp2_with fail
  refine (newPool_any w 1 (by decide) (by decide)).mono ?_
  rintro e w1 ⟨p, rfl, hp, hb⟩
  have HK1 : Hid (Pw w w.heap.size p 1 (.slice none 0 0) [] w1) := ⟨hp, hb, Nat.le_refl _⟩
  clear hp hb
  go_wp2_with fail
  refine (offer_any w1 _ p 1 _ [] cA HK1.out.a (by decide) HK1.out.bel.size).mono ?_
  intro e w2 hq
  obtain ⟨v2, rfl, HK2⟩ := HK1.out.offer hq
  rw [s_A] at HK2
  replace HK2 : Hid (Pw w w.heap.size p 1 v2 [cA] w2) := HK2
  rw [b_A]
  clear hq
  go_wp2_with fail
  refine (offer_any w2 _ p 1 _ [cA] cB HK2.out.a (by decide) HK2.out.bel.size).mono ?_
  intro e w3 hq
  obtain ⟨v3, rfl, HK3⟩ := HK2.out.offer hq
  rw [s_AB] at HK3
  replace HK3 : Hid (Pw w w.heap.size p 1 v3 [cB] w3) := HK3
  rw [b_AB]
  clear hq
  go_wp2_with fail
  refine (offer_any w3 _ p 1 _ [cB] cA HK3.out.a (by decide) HK3.out.bel.size).mono ?_
  intro e w4 hq
  obtain ⟨v4, rfl, HK4⟩ := HK3.out.offer hq
  rw [s_BA] at HK4
  replace HK4 : Hid (Pw w w.heap.size p 1 v4 [cB] w4) := HK4
  rw [b_BA]
  clear hq
  go_wp2_with fail
  refine (take_any w4 _ p 1 _ [cB] HK4.out.a).mono ?_
  rintro e w5 ⟨v5, rfl, hp, _, hf⟩
  have HK5 := Lib.hid (HK4.out.turn hp hf)
  have hbq := HK5.out.bel.size
  clear hp hf
  dsimp only [cB]
  go_wp2
  go_ret
  exact ⟨rfl, HK5.out.bel.alloc HK5.out.bel.size _⟩
end Go.Proofs.Ytpcjogmikgfgdaa

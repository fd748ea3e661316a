/- A region that draws its order inside a round: it is walked as outside of one, where none of its operations is a defer statement. No condition; no program. -/
import Derived.Test.YtkecipdonamjaaaRangeV
import Derived.OrdersIn
import Derived.TacticsIn
namespace Go.Proofs.Ytkecipdonamjaaa
open Go.RowKit
section
variable {F : Fence} {n : Nat} {P : Program} {ops : Array Oper} {Q : Exit → Act → World → Prop} {md : Region.Mode}
theorem oper_round (hro : F.round = none) (l : Nat) {o : Oper} (hnd : ∀ c, o.op ≠ .defer c) {a : Act} {w : World} {K : Act → World → Prop} (h : o.wpIn F n P a w K Q) : o.wpIn (F.inRound l) n P a w K Q := by
  unfold Oper.wpIn at *
  refine ⟨h.1, ?_⟩
  have h2 := h.2
  rw [hro, Oper.semAt_none] at h2
  rw [Fence.inRound_round, Oper.semAt_some l _ o hnd]
  exact h2
theorem wpAnyIn_round (hro : F.round = none) (l : Nat) (hnd : ∀ (i : Nat) (o : Oper), ops[i]? = some o → ∀ c, o.op ≠ .defer c) : ∀ (fuel : Nat) (listed : Array Bool) (a : Act) (w : World),
    wpAnyIn F n P md ops Q fuel listed a w → wpAnyIn (F.inRound l) n P md ops Q fuel listed a w := by
  intro fuel
  induction fuel with
  | zero => intro listed a w h; exact h
  | succ fuel ih =>
    intro listed a w h
    refine ⟨h.1, fun i hi => ?_⟩
    have h2 := h.2 i hi
    unfold wpOpIn at *
    cases ho : ops[i]? with
    | none => rw [ho] at h2; exact ih _ _ _ h2
    | some o =>
      rw [ho] at h2
      dsimp only at h2 ⊢
      by_cases hw : Region.wanted o (yielded ops a.tmps) = true
      · rw [if_pos hw] at h2 ⊢
        exact Oper.wpIn_mono (fun a w hk => ih _ _ _ hk) (oper_round hro l (hnd i o ho) h2)
      · rw [if_neg hw] at h2 ⊢
        exact ⟨h2.1, ih _ _ _ h2.2⟩
/-- whether no operation is a defer statement: for a closed check -/
def noDefer (ops : Array Oper) : Bool := ops.all fun o => match o.op with
  | .defer _ => false
  | _ => true
theorem noDefer_spec (h : noDefer ops = true) : ∀ (i : Nat) (o : Oper), ops[i]? = some o → ∀ c, o.op ≠ .defer c := by
  intro i o ho c e
  unfold noDefer at h
  rw [Array.all_eq_true] at h
  obtain ⟨hi, hx⟩ := Array.getElem?_eq_some_iff.1 ho
  have h1 := h i hi
  rw [hx, e] at h1
  exact absurd h1 (by simp)
theorem wpIn_region_round {id : Nat} {a : Act} {w : World} (hro : F.round = none) (l : Nat) (hnd : noDefer ops = true) (hm : P.follows .mixedOrders = true)
    (h : wpAnyIn F n P .any ops Q ops.size (Array.replicate ops.size false) a { w with drawn := w.drawn + 1 }) : (Code.region id ops true).wpIn (F.inRound l) n P Q a w :=
  wpIn_region_any hm (wpAnyIn_round hro l (noDefer_spec hnd) _ _ _ _ h)
end
end Go.Proofs.Ytkecipdonamjaaa

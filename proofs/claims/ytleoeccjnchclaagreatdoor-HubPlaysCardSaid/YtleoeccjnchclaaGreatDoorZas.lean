/- What the closing part of a tied card's proof needs in this seat: a world for the witness, the weight of a text. No condition but sizes. -/
import Derived.Test.YtleoeccjnchclaaGreatDoorCards
import Derived.Test.YtleoeccjnchclaaGreatDoorTie
import Derived.Test.YtleoeccjnchclaaGreatDoorZan
import Derived.OpenShut
import Derived.Deep.DeepHandedRow
import Derived.Lib.LaidTab
namespace Go.Proofs.YtleoeccjnchclaaGreatDoor
open Go.ChangeShapes Go.WideShapes Go.ChangeAt Go.RowKit
open Go.ChangeMaps (open_string shut_string)

def refill (l : List Value) : Obj → Obj
  | .cells _ t frozen => .cells l.toArray t frozen
  | o => o
/-- the settled world, with the two tables of unicode/utf8 as their initialisers lay them -/
noncomputable def laidWorld (os : Os) : World :=
  { World.holding Tryz.prog os ⟨#[], #[], []⟩ with
    heap := ((World.holding Tryz.prog os ⟨#[], #[], []⟩).heap.modify 0 (refill (Go.Pinned.utf8FirstZ.map fun n => .int .u8 (Int.ofNat n)))).modify 1
      (refill ([128, 191, 160, 191, 128, 159, 144, 191, 128, 143, 0, 0, 0, 0, 0, 0, 0, 0, 0, 0, 0, 0, 0, 0, 0, 0, 0, 0, 0, 0, 0, 0].map fun n => .int .u8 n)) }

section
variable {H : Type} {enc : TypeId × Value → H} {P : Program} {w : World} {base : Nat} {spare : Nat → Bool} {held : Bool} {r : Reach} {b0 : Nat} {t : TypeId} {v : Value} {d : DataW H} {p : List MemPlace}
theorem open_strW (ht : P.underlying t = some .string) (hv : Value.okWide P w r b0 t v) (h : DataW.Trod enc P w base spare held t v d p)
    (hw : (d.weights P t).all (fun x => decide (x ≤ reachBytes)) = true) : ∃ s, v = .string s ∧ s.size ≤ 140737488351232 := by
  obtain ⟨s, rfl, rfl, _, hs⟩ := open_string ht hv h
  refine ⟨s, rfl, ?_⟩
  simp only [DataW.weights, List.all_cons, List.all_nil, Bool.and_true, decide_eq_true_eq] at hw
  have e : reachBytes = 140737488351232 := rfl
  rw [e] at hw
  simpa using hw
end
end Go.Proofs.YtleoeccjnchclaaGreatDoor

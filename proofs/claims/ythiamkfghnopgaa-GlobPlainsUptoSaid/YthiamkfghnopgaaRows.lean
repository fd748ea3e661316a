/-
  No cell of these rows narrows 'for every input' (looked for: loops, veiled, ifaces, maps, wideKeys, modest, calm, conditions, laid).
  DERIVED. THE GIVEN ROWS OF THIS SEAT. 6 by the template 'for every input the law returns true; each argument reads behind the call as it read before'; 0 by the template 'total and deterministic' (their statements: YthiamkfghnopgaaTotals.lean).
  GIVEN WITH THE SEED: the statements are not yours to turn. If you find one false, say at which input.
  Laid BY PROGRAM, IN A SANDBOX (cutbox-rows.mjs): the forced cells as the released guide's own fill.sh prints them over the translation d6f81622aa449bc5… (all of the seat's roots in one cut). By AI agents, Wed Nov 11 2026. No macro, syntax, notation, axiom, sorry.
-/
import Derived.Test.YthiamkfghnopgaaChecked
import GoSem.Claim
import GoSem.ClaimJoined
import GoSem.ClaimMapViews
import Derived.JoinedTies
import Derived.KernelRfl
namespace Go.Proofs.Ythiamkfghnopgaa
/- THE CELL 'sum', in the pinned program and in every row, IS THE sha256 OF THE DUMP (.gsa) THAT YthiamkfghnopgaaProg.lean LOADS. Nothing in Lean hashes anything: it is a label: what it is worth is what the hold of that sum in a sandbox is worth. -/
noncomputable def Try.pinned : Pinned := { name := "ythiamkfghnopgaa", sum := "d6f81622aa449bc54cdcf349c1910c47dfe3eea897018dbe3dc1e746dfde3a2c", checked := Try.checked }
namespace Rows
def none {H : Type} : Left H := { results := [], args := [] }

/-- 'pantrylaw04.DrawHashes': WHATEVER THE INPUT: true; the input reads as it did. -/
def drawHashesSpec : ChangeSpec := { name := "drawHashes", fn := fun _ => fun
  | [d1, d2] => { results := [.lit (.bool true)], args := [d1, d2] }
  | _ => none }
def drawHashesRow : OpenClaim := { program := "ythiamkfghnopgaa", sum := "d6f81622aa449bc54cdcf349c1910c47dfe3eea897018dbe3dc1e746dfde3a2c", func := "pantry/pantrylaw04.DrawHashes", spec := "drawHashes", apart := false }
def DrawHashesSaid : Prop := drawHashesRow.holds Try.pinned (OpenSpec.ofChange drawHashesSpec)

/-- ITS FALSE NEIGHBOUR: 'it returns false'. Refute it at one input. -/
def drawHashesWrong : ChangeSpec := { name := "drawHashes", fn := fun _ => fun
  | [d1, d2] => { results := [.lit (.bool false)], args := [d1, d2] }
  | _ => none }
def DrawHashesWrongFalsely : Prop := drawHashesRow.holds Try.pinned (OpenSpec.ofChange drawHashesWrong)

/-- 'pantrylaw03.GlobPlains': WHATEVER THE INPUT: true; the input reads as it did. -/
def globPlainsSpec : ChangeSpec := { name := "globPlains", fn := fun _ => fun
  | [d] => { results := [.lit (.bool true)], args := [d] }
  | _ => none }
def globPlainsRow : OpenClaim := { program := "ythiamkfghnopgaa", sum := "d6f81622aa449bc54cdcf349c1910c47dfe3eea897018dbe3dc1e746dfde3a2c", func := "pantry/pantrylaw03.GlobPlains", spec := "globPlains", apart := false }
def GlobPlainsSaid : Prop := globPlainsRow.holds Try.pinned (OpenSpec.ofChange globPlainsSpec)

/-- ITS FALSE NEIGHBOUR: 'it returns false'. Refute it at one input. -/
def globPlainsWrong : ChangeSpec := { name := "globPlains", fn := fun _ => fun
  | [d] => { results := [.lit (.bool false)], args := [d] }
  | _ => none }
def GlobPlainsWrongFalsely : Prop := globPlainsRow.holds Try.pinned (OpenSpec.ofChange globPlainsWrong)

/-- 'pantrylaw04.DrawTakes': WHATEVER THE INPUT: true; the input reads as it did. -/
def drawTakesSpec : ChangeSpec := { name := "drawTakes", fn := fun _ => fun
  | [d1, d2, d3] => { results := [.lit (.bool true)], args := [d1, d2, d3] }
  | _ => none }
def drawTakesRow : OpenClaim := { program := "ythiamkfghnopgaa", sum := "d6f81622aa449bc54cdcf349c1910c47dfe3eea897018dbe3dc1e746dfde3a2c", func := "pantry/pantrylaw04.DrawTakes", spec := "drawTakes", apart := false }
def DrawTakesSaid : Prop := drawTakesRow.holds Try.pinned (OpenSpec.ofChange drawTakesSpec)

/-- ITS FALSE NEIGHBOUR: 'it returns false'. Refute it at one input. -/
def drawTakesWrong : ChangeSpec := { name := "drawTakes", fn := fun _ => fun
  | [d1, d2, d3] => { results := [.lit (.bool false)], args := [d1, d2, d3] }
  | _ => none }
def DrawTakesWrongFalsely : Prop := drawTakesRow.holds Try.pinned (OpenSpec.ofChange drawTakesWrong)

/-- 'pantrylaw04.DrawApart': WHATEVER THE INPUT: true; the input reads as it did. -/
def drawApartSpec : ChangeSpec := { name := "drawApart", fn := fun _ => fun
  | [d1, d2, d3, d4, d5] => { results := [.lit (.bool true)], args := [d1, d2, d3, d4, d5] }
  | _ => none }
def drawApartRow : OpenClaim := { program := "ythiamkfghnopgaa", sum := "d6f81622aa449bc54cdcf349c1910c47dfe3eea897018dbe3dc1e746dfde3a2c", func := "pantry/pantrylaw04.DrawApart", spec := "drawApart", apart := false }
def DrawApartSaid : Prop := drawApartRow.holds Try.pinned (OpenSpec.ofChange drawApartSpec)

/-- ITS FALSE NEIGHBOUR: 'it returns false'. Refute it at one input. -/
def drawApartWrong : ChangeSpec := { name := "drawApart", fn := fun _ => fun
  | [d1, d2, d3, d4, d5] => { results := [.lit (.bool false)], args := [d1, d2, d3, d4, d5] }
  | _ => none }
def DrawApartWrongFalsely : Prop := drawApartRow.holds Try.pinned (OpenSpec.ofChange drawApartWrong)

/-- 'pantrylaw04.DrawOrder': WHATEVER THE INPUT: true; the input reads as it did. -/
def drawOrderSpec : ChangeSpec := { name := "drawOrder", fn := fun _ => fun
  | [d1, d2] => { results := [.lit (.bool true)], args := [d1, d2] }
  | _ => none }
def drawOrderRow : OpenClaim := { program := "ythiamkfghnopgaa", sum := "d6f81622aa449bc54cdcf349c1910c47dfe3eea897018dbe3dc1e746dfde3a2c", func := "pantry/pantrylaw04.DrawOrder", spec := "drawOrder", apart := false }
def DrawOrderSaid : Prop := drawOrderRow.holds Try.pinned (OpenSpec.ofChange drawOrderSpec)

/-- ITS FALSE NEIGHBOUR: 'it returns false'. Refute it at one input. -/
def drawOrderWrong : ChangeSpec := { name := "drawOrder", fn := fun _ => fun
  | [d1, d2] => { results := [.lit (.bool false)], args := [d1, d2] }
  | _ => none }
def DrawOrderWrongFalsely : Prop := drawOrderRow.holds Try.pinned (OpenSpec.ofChange drawOrderWrong)

/-- 'pantrylaw04.DrawKnown': WHATEVER THE INPUT: true; the input reads as it did. -/
def drawKnownSpec : ChangeSpec := { name := "drawKnown", fn := fun _ => fun
  | [] => { results := [.lit (.bool true)], args := [] }
  | _ => none }
def drawKnownRow : OpenClaim := { program := "ythiamkfghnopgaa", sum := "d6f81622aa449bc54cdcf349c1910c47dfe3eea897018dbe3dc1e746dfde3a2c", func := "pantry/pantrylaw04.DrawKnown", spec := "drawKnown", apart := false }
def DrawKnownSaid : Prop := drawKnownRow.holds Try.pinned (OpenSpec.ofChange drawKnownSpec)

/-- ITS FALSE NEIGHBOUR: 'it returns false'. Refute it at one input. -/
def drawKnownWrong : ChangeSpec := { name := "drawKnown", fn := fun _ => fun
  | [] => { results := [.lit (.bool false)], args := [] }
  | _ => none }
def DrawKnownWrongFalsely : Prop := drawKnownRow.holds Try.pinned (OpenSpec.ofChange drawKnownWrong)

/- THE SECOND FORM. 'bulk': how many values and letters a reading holds, each counted each time it is reached (what is shared counts as often as it is met; a slice's spare places count too). A statement '..UptoSaid' is the law's where the arguments, and the package variables that the reading takes, are together of bulk at most 1048576: NARROWER than '..Said'. Prove '..Said' where nothing that the law and all that it calls make is longer than what came in: it says more and counts as full. Else prove '..UptoSaid'. A law counts once. -/
mutual
def uptoBulk {H : Type} : DataW H → Nat
  | .lit (.string bytes) => bytes.length + 1
  | .lit _ => 1
  | .nil => 1
  | .ptr d => uptoBulk d + 1
  | .slice elems spare => uptoBulkAll elems + uptoBulkAll spare + 1
  | .agg parts => uptoBulkAll parts + 1
  | .iface _ d => uptoBulk d + 1
  | .map entries => uptoBulkEntries entries + 1
  | .held _ => 1
def uptoBulkAll {H : Type} : List (DataW H) → Nat
  | [] => 0
  | d :: r => uptoBulk d + uptoBulkAll r
def uptoBulkEntries {H : Type} : List (Lit × DataW H) → Nat
  | [] => 0
  | x :: r => uptoBulkEntry x + uptoBulkEntries r
def uptoBulkEntry {H : Type} : Lit × DataW H → Nat
  | (.string bytes, d) => bytes.length + uptoBulk d + 1
  | (_, d) => uptoBulk d + 1
 end
def uptoSmall : (H : Type) → List (DataW H) → Bool := fun _ ds => decide (uptoBulkAll ds ≤ 1048576)
def OpenSpec.upto (s : _root_.Go.ChangeSpec) : _root_.Go.OpenSpec := { _root_.Go.OpenSpec.ofChange s with cond := some uptoSmall }

/-- 'pantrylaw04.DrawHashes', WHERE WHAT IT READS IS OF BULK AT MOST 1048576: true; the input reads as it did. -/
def drawHashesUptoRow : OpenClaim := { program := "ythiamkfghnopgaa", sum := "d6f81622aa449bc54cdcf349c1910c47dfe3eea897018dbe3dc1e746dfde3a2c", func := "pantry/pantrylaw04.DrawHashes", spec := "drawHashes", apart := false, narrowed := true }
def DrawHashesUptoSaid : Prop := drawHashesUptoRow.holds Try.pinned (OpenSpec.upto drawHashesSpec)

/-- 'pantrylaw03.GlobPlains', WHERE WHAT IT READS IS OF BULK AT MOST 1048576: true; the input reads as it did. -/
def globPlainsUptoRow : OpenClaim := { program := "ythiamkfghnopgaa", sum := "d6f81622aa449bc54cdcf349c1910c47dfe3eea897018dbe3dc1e746dfde3a2c", func := "pantry/pantrylaw03.GlobPlains", spec := "globPlains", apart := false, narrowed := true }
def GlobPlainsUptoSaid : Prop := globPlainsUptoRow.holds Try.pinned (OpenSpec.upto globPlainsSpec)

/-- 'pantrylaw04.DrawTakes', WHERE WHAT IT READS IS OF BULK AT MOST 1048576: true; the input reads as it did. -/
def drawTakesUptoRow : OpenClaim := { program := "ythiamkfghnopgaa", sum := "d6f81622aa449bc54cdcf349c1910c47dfe3eea897018dbe3dc1e746dfde3a2c", func := "pantry/pantrylaw04.DrawTakes", spec := "drawTakes", apart := false, narrowed := true }
def DrawTakesUptoSaid : Prop := drawTakesUptoRow.holds Try.pinned (OpenSpec.upto drawTakesSpec)

/-- 'pantrylaw04.DrawApart', WHERE WHAT IT READS IS OF BULK AT MOST 1048576: true; the input reads as it did. -/
def drawApartUptoRow : OpenClaim := { program := "ythiamkfghnopgaa", sum := "d6f81622aa449bc54cdcf349c1910c47dfe3eea897018dbe3dc1e746dfde3a2c", func := "pantry/pantrylaw04.DrawApart", spec := "drawApart", apart := false, narrowed := true }
def DrawApartUptoSaid : Prop := drawApartUptoRow.holds Try.pinned (OpenSpec.upto drawApartSpec)

/-- 'pantrylaw04.DrawOrder', WHERE WHAT IT READS IS OF BULK AT MOST 1048576: true; the input reads as it did. -/
def drawOrderUptoRow : OpenClaim := { program := "ythiamkfghnopgaa", sum := "d6f81622aa449bc54cdcf349c1910c47dfe3eea897018dbe3dc1e746dfde3a2c", func := "pantry/pantrylaw04.DrawOrder", spec := "drawOrder", apart := false, narrowed := true }
def DrawOrderUptoSaid : Prop := drawOrderUptoRow.holds Try.pinned (OpenSpec.upto drawOrderSpec)

/-- 'pantrylaw04.DrawKnown', WHERE WHAT IT READS IS OF BULK AT MOST 1048576: true; the input reads as it did. -/
def drawKnownUptoRow : OpenClaim := { program := "ythiamkfghnopgaa", sum := "d6f81622aa449bc54cdcf349c1910c47dfe3eea897018dbe3dc1e746dfde3a2c", func := "pantry/pantrylaw04.DrawKnown", spec := "drawKnown", apart := false, narrowed := true }
def DrawKnownUptoSaid : Prop := drawKnownUptoRow.holds Try.pinned (OpenSpec.upto drawKnownSpec)

end Rows
end Go.Proofs.Ythiamkfghnopgaa

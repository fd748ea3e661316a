/-
  No cell of these rows narrows 'for every input' (looked for: loops, veiled, ifaces, maps, wideKeys, modest, calm, conditions, laid).
  DERIVED. THE GIVEN ROWS OF THIS SEAT. 12 by the template 'for every input the law returns true; each argument reads behind the call as it read before'; 0 by the template 'total and deterministic' (their statements: YtgomilodeaafdaaTotals.lean).
  GIVEN WITH THE SEED: the statements are not yours to turn. If you find one false, say at which input.
  Laid BY PROGRAM, IN A SANDBOX (cutbox-rows.mjs): the forced cells as the released guide's own fill.sh prints them over the translation 1e8234766ceece0f… (all of the seat's roots in one cut). By AI agents, Wed Nov 11 2026. No macro, syntax, notation, axiom, sorry.
-/
import Derived.Test.YtgomilodeaafdaaChecked
import GoSem.Claim
import GoSem.ClaimJoined
import GoSem.ClaimMapViews
import Derived.JoinedTies
import Derived.KernelRfl
namespace Go.Proofs.Ytgomilodeaafdaa
/- THE CELL 'sum', in the pinned program and in every row, IS THE sha256 OF THE DUMP (.gsa) THAT YtgomilodeaafdaaProg.lean LOADS. Nothing in Lean hashes anything: it is a label: what it is worth is what the hold of that sum in a sandbox is worth. -/
noncomputable def Try.pinned : Pinned := { name := "ytgomilodeaafdaa", sum := "1e8234766ceece0f36db165c21907955ccce613208052af9c1650e7bf9b77e1b", checked := Try.checked }
namespace Rows
def none {H : Type} : Left H := { results := [], args := [] }

/-- 'pantrylaw05.DictPlays': WHATEVER THE INPUT: true; the input reads as it did. -/
def dictPlaysSpec : ChangeSpec := { name := "dictPlays", fn := fun _ => fun
  | [d1, d2, d3] => { results := [.lit (.bool true)], args := [d1, d2, d3] }
  | _ => none }
def dictPlaysRow : OpenClaim := { program := "ytgomilodeaafdaa", sum := "1e8234766ceece0f36db165c21907955ccce613208052af9c1650e7bf9b77e1b", func := "pantry/pantrylaw05.DictPlays", spec := "dictPlays", unfollowed := true, recurses := true, apart := false }
def DictPlaysSaid : Prop := dictPlaysRow.holds Try.pinned (OpenSpec.ofChange dictPlaysSpec)

/-- ITS FALSE NEIGHBOUR: 'it returns false'. Refute it at one input. -/
def dictPlaysWrong : ChangeSpec := { name := "dictPlays", fn := fun _ => fun
  | [d1, d2, d3] => { results := [.lit (.bool false)], args := [d1, d2, d3] }
  | _ => none }
def DictPlaysWrongFalsely : Prop := dictPlaysRow.holds Try.pinned (OpenSpec.ofChange dictPlaysWrong)

/-- 'pantrylaw09.RecordDraws': WHATEVER THE INPUT: true; the input reads as it did. -/
def recordDrawsSpec : ChangeSpec := { name := "recordDraws", fn := fun _ => fun
  | [d1, d2, d3] => { results := [.lit (.bool true)], args := [d1, d2, d3] }
  | _ => none }
def recordDrawsRow : OpenClaim := { program := "ytgomilodeaafdaa", sum := "1e8234766ceece0f36db165c21907955ccce613208052af9c1650e7bf9b77e1b", func := "pantry/pantrylaw09.RecordDraws", spec := "recordDraws", unfollowed := true, recurses := true, apart := false }
def RecordDrawsSaid : Prop := recordDrawsRow.holds Try.pinned (OpenSpec.ofChange recordDrawsSpec)

/-- ITS FALSE NEIGHBOUR: 'it returns false'. Refute it at one input. -/
def recordDrawsWrong : ChangeSpec := { name := "recordDraws", fn := fun _ => fun
  | [d1, d2, d3] => { results := [.lit (.bool false)], args := [d1, d2, d3] }
  | _ => none }
def RecordDrawsWrongFalsely : Prop := recordDrawsRow.holds Try.pinned (OpenSpec.ofChange recordDrawsWrong)

/-- 'pantrylaw09.RecordTable': WHATEVER THE INPUT: true; the input reads as it did. -/
def recordTableSpec : ChangeSpec := { name := "recordTable", fn := fun _ => fun
  | [d1, d2] => { results := [.lit (.bool true)], args := [d1, d2] }
  | _ => none }
def recordTableRow : OpenClaim := { program := "ytgomilodeaafdaa", sum := "1e8234766ceece0f36db165c21907955ccce613208052af9c1650e7bf9b77e1b", func := "pantry/pantrylaw09.RecordTable", spec := "recordTable", unfollowed := true, recurses := true, apart := false }
def RecordTableSaid : Prop := recordTableRow.holds Try.pinned (OpenSpec.ofChange recordTableSpec)

/-- ITS FALSE NEIGHBOUR: 'it returns false'. Refute it at one input. -/
def recordTableWrong : ChangeSpec := { name := "recordTable", fn := fun _ => fun
  | [d1, d2] => { results := [.lit (.bool false)], args := [d1, d2] }
  | _ => none }
def RecordTableWrongFalsely : Prop := recordTableRow.holds Try.pinned (OpenSpec.ofChange recordTableWrong)

/-- 'pantrylaw09.RecordScans': WHATEVER THE INPUT: true; the input reads as it did. -/
def recordScansSpec : ChangeSpec := { name := "recordScans", fn := fun _ => fun
  | [d1, d2, d3] => { results := [.lit (.bool true)], args := [d1, d2, d3] }
  | _ => none }
def recordScansRow : OpenClaim := { program := "ytgomilodeaafdaa", sum := "1e8234766ceece0f36db165c21907955ccce613208052af9c1650e7bf9b77e1b", func := "pantry/pantrylaw09.RecordScans", spec := "recordScans", unfollowed := true, recurses := true, apart := false }
def RecordScansSaid : Prop := recordScansRow.holds Try.pinned (OpenSpec.ofChange recordScansSpec)

/-- ITS FALSE NEIGHBOUR: 'it returns false'. Refute it at one input. -/
def recordScansWrong : ChangeSpec := { name := "recordScans", fn := fun _ => fun
  | [d1, d2, d3] => { results := [.lit (.bool false)], args := [d1, d2, d3] }
  | _ => none }
def RecordScansWrongFalsely : Prop := recordScansRow.holds Try.pinned (OpenSpec.ofChange recordScansWrong)

/-- 'pantrylaw10.FlockPlays': WHATEVER THE INPUT: true; the input reads as it did. -/
def flockPlaysSpec : ChangeSpec := { name := "flockPlays", fn := fun _ => fun
  | [d1, d2] => { results := [.lit (.bool true)], args := [d1, d2] }
  | _ => none }
def flockPlaysRow : OpenClaim := { program := "ytgomilodeaafdaa", sum := "1e8234766ceece0f36db165c21907955ccce613208052af9c1650e7bf9b77e1b", func := "pantry/pantrylaw10.FlockPlays", spec := "flockPlays", unfollowed := true, recurses := true, apart := false }
def FlockPlaysSaid : Prop := flockPlaysRow.holds Try.pinned (OpenSpec.ofChange flockPlaysSpec)

/-- ITS FALSE NEIGHBOUR: 'it returns false'. Refute it at one input. -/
def flockPlaysWrong : ChangeSpec := { name := "flockPlays", fn := fun _ => fun
  | [d1, d2] => { results := [.lit (.bool false)], args := [d1, d2] }
  | _ => none }
def FlockPlaysWrongFalsely : Prop := flockPlaysRow.holds Try.pinned (OpenSpec.ofChange flockPlaysWrong)

/-- 'pantrylaw10.FlockSets': WHATEVER THE INPUT: true; the input reads as it did. -/
def flockSetsSpec : ChangeSpec := { name := "flockSets", fn := fun _ => fun
  | [d1, d2] => { results := [.lit (.bool true)], args := [d1, d2] }
  | _ => none }
def flockSetsRow : OpenClaim := { program := "ytgomilodeaafdaa", sum := "1e8234766ceece0f36db165c21907955ccce613208052af9c1650e7bf9b77e1b", func := "pantry/pantrylaw10.FlockSets", spec := "flockSets", unfollowed := true, recurses := true, apart := false }
def FlockSetsSaid : Prop := flockSetsRow.holds Try.pinned (OpenSpec.ofChange flockSetsSpec)

/-- ITS FALSE NEIGHBOUR: 'it returns false'. Refute it at one input. -/
def flockSetsWrong : ChangeSpec := { name := "flockSets", fn := fun _ => fun
  | [d1, d2] => { results := [.lit (.bool false)], args := [d1, d2] }
  | _ => none }
def FlockSetsWrongFalsely : Prop := flockSetsRow.holds Try.pinned (OpenSpec.ofChange flockSetsWrong)

/-- 'pantrylaw10.FlockAlgebra': WHATEVER THE INPUT: true; the input reads as it did. -/
def flockAlgebraSpec : ChangeSpec := { name := "flockAlgebra", fn := fun _ => fun
  | [d1, d2] => { results := [.lit (.bool true)], args := [d1, d2] }
  | _ => none }
def flockAlgebraRow : OpenClaim := { program := "ytgomilodeaafdaa", sum := "1e8234766ceece0f36db165c21907955ccce613208052af9c1650e7bf9b77e1b", func := "pantry/pantrylaw10.FlockAlgebra", spec := "flockAlgebra", unfollowed := true, recurses := true, apart := false }
def FlockAlgebraSaid : Prop := flockAlgebraRow.holds Try.pinned (OpenSpec.ofChange flockAlgebraSpec)

/-- ITS FALSE NEIGHBOUR: 'it returns false'. Refute it at one input. -/
def flockAlgebraWrong : ChangeSpec := { name := "flockAlgebra", fn := fun _ => fun
  | [d1, d2] => { results := [.lit (.bool false)], args := [d1, d2] }
  | _ => none }
def FlockAlgebraWrongFalsely : Prop := flockAlgebraRow.holds Try.pinned (OpenSpec.ofChange flockAlgebraWrong)

/-- 'pantrylaw09.RecordPlays': WHATEVER THE INPUT: true; the input reads as it did. -/
def recordPlaysSpec : ChangeSpec := { name := "recordPlays", fn := fun _ => fun
  | [d1, d2, d3] => { results := [.lit (.bool true)], args := [d1, d2, d3] }
  | _ => none }
def recordPlaysRow : OpenClaim := { program := "ytgomilodeaafdaa", sum := "1e8234766ceece0f36db165c21907955ccce613208052af9c1650e7bf9b77e1b", func := "pantry/pantrylaw09.RecordPlays", spec := "recordPlays", unfollowed := true, recurses := true, apart := false }
def RecordPlaysSaid : Prop := recordPlaysRow.holds Try.pinned (OpenSpec.ofChange recordPlaysSpec)

/-- ITS FALSE NEIGHBOUR: 'it returns false'. Refute it at one input. -/
def recordPlaysWrong : ChangeSpec := { name := "recordPlays", fn := fun _ => fun
  | [d1, d2, d3] => { results := [.lit (.bool false)], args := [d1, d2, d3] }
  | _ => none }
def RecordPlaysWrongFalsely : Prop := recordPlaysRow.holds Try.pinned (OpenSpec.ofChange recordPlaysWrong)

/-- 'pantrylaw09.RecordNil': WHATEVER THE INPUT: true; the input reads as it did. -/
def recordNilSpec : ChangeSpec := { name := "recordNil", fn := fun _ => fun
  | [d] => { results := [.lit (.bool true)], args := [d] }
  | _ => none }
def recordNilRow : OpenClaim := { program := "ytgomilodeaafdaa", sum := "1e8234766ceece0f36db165c21907955ccce613208052af9c1650e7bf9b77e1b", func := "pantry/pantrylaw09.RecordNil", spec := "recordNil", unfollowed := true, recurses := true, apart := false }
def RecordNilSaid : Prop := recordNilRow.holds Try.pinned (OpenSpec.ofChange recordNilSpec)

/-- ITS FALSE NEIGHBOUR: 'it returns false'. Refute it at one input. -/
def recordNilWrong : ChangeSpec := { name := "recordNil", fn := fun _ => fun
  | [d] => { results := [.lit (.bool false)], args := [d] }
  | _ => none }
def RecordNilWrongFalsely : Prop := recordNilRow.holds Try.pinned (OpenSpec.ofChange recordNilWrong)

/-- 'pantrylaw10.FlockIsSet': WHATEVER THE INPUT: true; the input reads as it did. -/
def flockIsSetSpec : ChangeSpec := { name := "flockIsSet", fn := fun _ => fun
  | [d1, d2] => { results := [.lit (.bool true)], args := [d1, d2] }
  | _ => none }
def flockIsSetRow : OpenClaim := { program := "ytgomilodeaafdaa", sum := "1e8234766ceece0f36db165c21907955ccce613208052af9c1650e7bf9b77e1b", func := "pantry/pantrylaw10.FlockIsSet", spec := "flockIsSet", unfollowed := true, recurses := true, apart := false }
def FlockIsSetSaid : Prop := flockIsSetRow.holds Try.pinned (OpenSpec.ofChange flockIsSetSpec)

/-- ITS FALSE NEIGHBOUR: 'it returns false'. Refute it at one input. -/
def flockIsSetWrong : ChangeSpec := { name := "flockIsSet", fn := fun _ => fun
  | [d1, d2] => { results := [.lit (.bool false)], args := [d1, d2] }
  | _ => none }
def FlockIsSetWrongFalsely : Prop := flockIsSetRow.holds Try.pinned (OpenSpec.ofChange flockIsSetWrong)

/-- 'pantrylaw10.FlockMissed': WHATEVER THE INPUT: true; the input reads as it did. -/
def flockMissedSpec : ChangeSpec := { name := "flockMissed", fn := fun _ => fun
  | [d1, d2, d3, d4] => { results := [.lit (.bool true)], args := [d1, d2, d3, d4] }
  | _ => none }
def flockMissedRow : OpenClaim := { program := "ytgomilodeaafdaa", sum := "1e8234766ceece0f36db165c21907955ccce613208052af9c1650e7bf9b77e1b", func := "pantry/pantrylaw10.FlockMissed", spec := "flockMissed", unfollowed := true, recurses := true, apart := false }
def FlockMissedSaid : Prop := flockMissedRow.holds Try.pinned (OpenSpec.ofChange flockMissedSpec)

/-- ITS FALSE NEIGHBOUR: 'it returns false'. Refute it at one input. -/
def flockMissedWrong : ChangeSpec := { name := "flockMissed", fn := fun _ => fun
  | [d1, d2, d3, d4] => { results := [.lit (.bool false)], args := [d1, d2, d3, d4] }
  | _ => none }
def FlockMissedWrongFalsely : Prop := flockMissedRow.holds Try.pinned (OpenSpec.ofChange flockMissedWrong)

/-- 'pantrylaw10.FlockKnown': WHATEVER THE INPUT: true; the input reads as it did. -/
def flockKnownSpec : ChangeSpec := { name := "flockKnown", fn := fun _ => fun
  | [] => { results := [.lit (.bool true)], args := [] }
  | _ => none }
def flockKnownRow : OpenClaim := { program := "ytgomilodeaafdaa", sum := "1e8234766ceece0f36db165c21907955ccce613208052af9c1650e7bf9b77e1b", func := "pantry/pantrylaw10.FlockKnown", spec := "flockKnown", unfollowed := true, recurses := true, apart := false }
def FlockKnownSaid : Prop := flockKnownRow.holds Try.pinned (OpenSpec.ofChange flockKnownSpec)

/-- ITS FALSE NEIGHBOUR: 'it returns false'. Refute it at one input. -/
def flockKnownWrong : ChangeSpec := { name := "flockKnown", fn := fun _ => fun
  | [] => { results := [.lit (.bool false)], args := [] }
  | _ => none }
def FlockKnownWrongFalsely : Prop := flockKnownRow.holds Try.pinned (OpenSpec.ofChange flockKnownWrong)

/- THE SECOND FORM. 'bulk': how many values and letters a reading holds, each counted each time it is reached (what is shared counts as often as it is met; a slice's spare places count too). A statement '..UptoSaid' is the law's where the arguments, and the package variables that the reading takes, are together of bulk at most 1048576: NARROWER than '..Said'. Prove '..Said' where nothing that the law and all that it calls make is longer than what came in: it says more and counts as full. Else prove '..UptoSaid'. A law counts once. -/
mutual
def uptoBulk {H : Type} : DataW H → Nat
  | .lit (.string bytes) => bytes.length + 1
  | .lit _ => 1
  | .nil => 1
  | .ptr d => uptoBulk d + 1
  | .slice elems spare => uptoBulkAll elems + uptoBulkAll spare + 1
  | .agg parts => uptoBulkAll parts + 1
  | .iface _ d => uptoBulk d + 1
  | .map entries => uptoBulkEntries entries + 1
  | .held _ => 1
def uptoBulkAll {H : Type} : List (DataW H) → Nat
  | [] => 0
  | d :: r => uptoBulk d + uptoBulkAll r
def uptoBulkEntries {H : Type} : List (Lit × DataW H) → Nat
  | [] => 0
  | x :: r => uptoBulkEntry x + uptoBulkEntries r
def uptoBulkEntry {H : Type} : Lit × DataW H → Nat
  | (.string bytes, d) => bytes.length + uptoBulk d + 1
  | (_, d) => uptoBulk d + 1
 end
def uptoSmall : (H : Type) → List (DataW H) → Bool := fun _ ds => decide (uptoBulkAll ds ≤ 1048576)
def OpenSpec.upto (s : _root_.Go.ChangeSpec) : _root_.Go.OpenSpec := { _root_.Go.OpenSpec.ofChange s with cond := some uptoSmall }

/-- 'pantrylaw05.DictPlays', WHERE WHAT IT READS IS OF BULK AT MOST 1048576: true; the input reads as it did. -/
def dictPlaysUptoRow : OpenClaim := { program := "ytgomilodeaafdaa", sum := "1e8234766ceece0f36db165c21907955ccce613208052af9c1650e7bf9b77e1b", func := "pantry/pantrylaw05.DictPlays", spec := "dictPlays", unfollowed := true, recurses := true, apart := false, narrowed := true }
def DictPlaysUptoSaid : Prop := dictPlaysUptoRow.holds Try.pinned (OpenSpec.upto dictPlaysSpec)

/-- 'pantrylaw09.RecordDraws', WHERE WHAT IT READS IS OF BULK AT MOST 1048576: true; the input reads as it did. -/
def recordDrawsUptoRow : OpenClaim := { program := "ytgomilodeaafdaa", sum := "1e8234766ceece0f36db165c21907955ccce613208052af9c1650e7bf9b77e1b", func := "pantry/pantrylaw09.RecordDraws", spec := "recordDraws", unfollowed := true, recurses := true, apart := false, narrowed := true }
def RecordDrawsUptoSaid : Prop := recordDrawsUptoRow.holds Try.pinned (OpenSpec.upto recordDrawsSpec)

/-- 'pantrylaw09.RecordTable', WHERE WHAT IT READS IS OF BULK AT MOST 1048576: true; the input reads as it did. -/
def recordTableUptoRow : OpenClaim := { program := "ytgomilodeaafdaa", sum := "1e8234766ceece0f36db165c21907955ccce613208052af9c1650e7bf9b77e1b", func := "pantry/pantrylaw09.RecordTable", spec := "recordTable", unfollowed := true, recurses := true, apart := false, narrowed := true }
def RecordTableUptoSaid : Prop := recordTableUptoRow.holds Try.pinned (OpenSpec.upto recordTableSpec)

/-- 'pantrylaw09.RecordScans', WHERE WHAT IT READS IS OF BULK AT MOST 1048576: true; the input reads as it did. -/
def recordScansUptoRow : OpenClaim := { program := "ytgomilodeaafdaa", sum := "1e8234766ceece0f36db165c21907955ccce613208052af9c1650e7bf9b77e1b", func := "pantry/pantrylaw09.RecordScans", spec := "recordScans", unfollowed := true, recurses := true, apart := false, narrowed := true }
def RecordScansUptoSaid : Prop := recordScansUptoRow.holds Try.pinned (OpenSpec.upto recordScansSpec)

/-- 'pantrylaw10.FlockPlays', WHERE WHAT IT READS IS OF BULK AT MOST 1048576: true; the input reads as it did. -/
def flockPlaysUptoRow : OpenClaim := { program := "ytgomilodeaafdaa", sum := "1e8234766ceece0f36db165c21907955ccce613208052af9c1650e7bf9b77e1b", func := "pantry/pantrylaw10.FlockPlays", spec := "flockPlays", unfollowed := true, recurses := true, apart := false, narrowed := true }
def FlockPlaysUptoSaid : Prop := flockPlaysUptoRow.holds Try.pinned (OpenSpec.upto flockPlaysSpec)

/-- 'pantrylaw10.FlockSets', WHERE WHAT IT READS IS OF BULK AT MOST 1048576: true; the input reads as it did. -/
def flockSetsUptoRow : OpenClaim := { program := "ytgomilodeaafdaa", sum := "1e8234766ceece0f36db165c21907955ccce613208052af9c1650e7bf9b77e1b", func := "pantry/pantrylaw10.FlockSets", spec := "flockSets", unfollowed := true, recurses := true, apart := false, narrowed := true }
def FlockSetsUptoSaid : Prop := flockSetsUptoRow.holds Try.pinned (OpenSpec.upto flockSetsSpec)

/-- 'pantrylaw10.FlockAlgebra', WHERE WHAT IT READS IS OF BULK AT MOST 1048576: true; the input reads as it did. -/
def flockAlgebraUptoRow : OpenClaim := { program := "ytgomilodeaafdaa", sum := "1e8234766ceece0f36db165c21907955ccce613208052af9c1650e7bf9b77e1b", func := "pantry/pantrylaw10.FlockAlgebra", spec := "flockAlgebra", unfollowed := true, recurses := true, apart := false, narrowed := true }
def FlockAlgebraUptoSaid : Prop := flockAlgebraUptoRow.holds Try.pinned (OpenSpec.upto flockAlgebraSpec)

/-- 'pantrylaw09.RecordPlays', WHERE WHAT IT READS IS OF BULK AT MOST 1048576: true; the input reads as it did. -/
def recordPlaysUptoRow : OpenClaim := { program := "ytgomilodeaafdaa", sum := "1e8234766ceece0f36db165c21907955ccce613208052af9c1650e7bf9b77e1b", func := "pantry/pantrylaw09.RecordPlays", spec := "recordPlays", unfollowed := true, recurses := true, apart := false, narrowed := true }
def RecordPlaysUptoSaid : Prop := recordPlaysUptoRow.holds Try.pinned (OpenSpec.upto recordPlaysSpec)

/-- 'pantrylaw09.RecordNil', WHERE WHAT IT READS IS OF BULK AT MOST 1048576: true; the input reads as it did. -/
def recordNilUptoRow : OpenClaim := { program := "ytgomilodeaafdaa", sum := "1e8234766ceece0f36db165c21907955ccce613208052af9c1650e7bf9b77e1b", func := "pantry/pantrylaw09.RecordNil", spec := "recordNil", unfollowed := true, recurses := true, apart := false, narrowed := true }
def RecordNilUptoSaid : Prop := recordNilUptoRow.holds Try.pinned (OpenSpec.upto recordNilSpec)

/-- 'pantrylaw10.FlockIsSet', WHERE WHAT IT READS IS OF BULK AT MOST 1048576: true; the input reads as it did. -/
def flockIsSetUptoRow : OpenClaim := { program := "ytgomilodeaafdaa", sum := "1e8234766ceece0f36db165c21907955ccce613208052af9c1650e7bf9b77e1b", func := "pantry/pantrylaw10.FlockIsSet", spec := "flockIsSet", unfollowed := true, recurses := true, apart := false, narrowed := true }
def FlockIsSetUptoSaid : Prop := flockIsSetUptoRow.holds Try.pinned (OpenSpec.upto flockIsSetSpec)

/-- 'pantrylaw10.FlockMissed', WHERE WHAT IT READS IS OF BULK AT MOST 1048576: true; the input reads as it did. -/
def flockMissedUptoRow : OpenClaim := { program := "ytgomilodeaafdaa", sum := "1e8234766ceece0f36db165c21907955ccce613208052af9c1650e7bf9b77e1b", func := "pantry/pantrylaw10.FlockMissed", spec := "flockMissed", unfollowed := true, recurses := true, apart := false, narrowed := true }
def FlockMissedUptoSaid : Prop := flockMissedUptoRow.holds Try.pinned (OpenSpec.upto flockMissedSpec)

/-- 'pantrylaw10.FlockKnown', WHERE WHAT IT READS IS OF BULK AT MOST 1048576: true; the input reads as it did. -/
def flockKnownUptoRow : OpenClaim := { program := "ytgomilodeaafdaa", sum := "1e8234766ceece0f36db165c21907955ccce613208052af9c1650e7bf9b77e1b", func := "pantry/pantrylaw10.FlockKnown", spec := "flockKnown", unfollowed := true, recurses := true, apart := false, narrowed := true }
def FlockKnownUptoSaid : Prop := flockKnownUptoRow.holds Try.pinned (OpenSpec.upto flockKnownSpec)

end Rows
end Go.Proofs.Ytgomilodeaafdaa

/-
  No cell of these rows narrows 'for every input' (looked for: loops, veiled, ifaces, maps, wideKeys, modest, calm, conditions, laid).
  DERIVED. THE GIVEN ROWS OF THIS SEAT. 15 by the template 'for every input the law returns true; each argument reads behind the call as it read before'; 0 by the template 'total and deterministic' (their statements: YtkecipdonamjaaaTotals.lean).
  GIVEN WITH THE SEED: the statements are not yours to turn. If you find one false, say at which input.
  Laid BY PROGRAM, IN A SANDBOX (cutbox-rows.mjs): the forced cells as the released guide's own fill.sh prints them over the translation 331b827950a0a68f… (all of the seat's roots in one cut). By AI agents, Wed Nov 11 2026. No macro, syntax, notation, axiom, sorry.
-/
import Derived.Test.YtkecipdonamjaaaChecked
import GoSem.Claim
import GoSem.ClaimJoined
import GoSem.ClaimMapViews
import Derived.JoinedTies
import Derived.KernelRfl
namespace Go.Proofs.Ytkecipdonamjaaa
/- THE CELL 'sum', in the pinned program and in every row, IS THE sha256 OF THE DUMP (.gsa) THAT YtkecipdonamjaaaProg.lean LOADS. Nothing in Lean hashes anything: it is a label: what it is worth is what the hold of that sum in a sandbox is worth. -/
noncomputable def Try.pinned : Pinned := { name := "ytkecipdonamjaaa", sum := "331b827950a0a68fae7f4bfd63f01d8734e54aba74986e4abf43a6c9b6d07add", checked := Try.checked }
namespace Rows
def none {H : Type} : Left H := { results := [], args := [] }

/-- 'pantrylaw06.ScanAfters': WHATEVER THE INPUT: true; the input reads as it did. -/
def scanAftersSpec : ChangeSpec := { name := "scanAfters", fn := fun _ => fun
  | [d1, d2] => { results := [.lit (.bool true)], args := [d1, d2] }
  | _ => none }
def scanAftersRow : OpenClaim := { program := "ytkecipdonamjaaa", sum := "331b827950a0a68fae7f4bfd63f01d8734e54aba74986e4abf43a6c9b6d07add", func := "pantry/pantrylaw06.ScanAfters", spec := "scanAfters", apart := false }
def ScanAftersSaid : Prop := scanAftersRow.holds Try.pinned (OpenSpec.ofChange scanAftersSpec)

/-- ITS FALSE NEIGHBOUR: 'it returns false'. Refute it at one input. -/
def scanAftersWrong : ChangeSpec := { name := "scanAfters", fn := fun _ => fun
  | [d1, d2] => { results := [.lit (.bool false)], args := [d1, d2] }
  | _ => none }
def ScanAftersWrongFalsely : Prop := scanAftersRow.holds Try.pinned (OpenSpec.ofChange scanAftersWrong)

/-- 'pantrylaw06.ScanRound': WHATEVER THE INPUT: true; the input reads as it did. -/
def scanRoundSpec : ChangeSpec := { name := "scanRound", fn := fun _ => fun
  | [d1, d2] => { results := [.lit (.bool true)], args := [d1, d2] }
  | _ => none }
def scanRoundRow : OpenClaim := { program := "ytkecipdonamjaaa", sum := "331b827950a0a68fae7f4bfd63f01d8734e54aba74986e4abf43a6c9b6d07add", func := "pantry/pantrylaw06.ScanRound", spec := "scanRound", apart := false }
def ScanRoundSaid : Prop := scanRoundRow.holds Try.pinned (OpenSpec.ofChange scanRoundSpec)

/-- ITS FALSE NEIGHBOUR: 'it returns false'. Refute it at one input. -/
def scanRoundWrong : ChangeSpec := { name := "scanRound", fn := fun _ => fun
  | [d1, d2] => { results := [.lit (.bool false)], args := [d1, d2] }
  | _ => none }
def ScanRoundWrongFalsely : Prop := scanRoundRow.holds Try.pinned (OpenSpec.ofChange scanRoundWrong)

/-- 'pantrylaw05.DictSeeds': WHATEVER THE INPUT: true; the input reads as it did. -/
def dictSeedsSpec : ChangeSpec := { name := "dictSeeds", fn := fun _ => fun
  | [d1, d2, d3] => { results := [.lit (.bool true)], args := [d1, d2, d3] }
  | _ => none }
def dictSeedsRow : OpenClaim := { program := "ytkecipdonamjaaa", sum := "331b827950a0a68fae7f4bfd63f01d8734e54aba74986e4abf43a6c9b6d07add", func := "pantry/pantrylaw05.DictSeeds", spec := "dictSeeds", apart := false }
def DictSeedsSaid : Prop := dictSeedsRow.holds Try.pinned (OpenSpec.ofChange dictSeedsSpec)

/-- ITS FALSE NEIGHBOUR: 'it returns false'. Refute it at one input. -/
def dictSeedsWrong : ChangeSpec := { name := "dictSeeds", fn := fun _ => fun
  | [d1, d2, d3] => { results := [.lit (.bool false)], args := [d1, d2, d3] }
  | _ => none }
def DictSeedsWrongFalsely : Prop := dictSeedsRow.holds Try.pinned (OpenSpec.ofChange dictSeedsWrong)

/-- 'pantrylaw05.DictLittle': WHATEVER THE INPUT: true; the input reads as it did. -/
def dictLittleSpec : ChangeSpec := { name := "dictLittle", fn := fun _ => fun
  | [d1, d2, d3] => { results := [.lit (.bool true)], args := [d1, d2, d3] }
  | _ => none }
def dictLittleRow : OpenClaim := { program := "ytkecipdonamjaaa", sum := "331b827950a0a68fae7f4bfd63f01d8734e54aba74986e4abf43a6c9b6d07add", func := "pantry/pantrylaw05.DictLittle", spec := "dictLittle", apart := false }
def DictLittleSaid : Prop := dictLittleRow.holds Try.pinned (OpenSpec.ofChange dictLittleSpec)

/-- ITS FALSE NEIGHBOUR: 'it returns false'. Refute it at one input. -/
def dictLittleWrong : ChangeSpec := { name := "dictLittle", fn := fun _ => fun
  | [d1, d2, d3] => { results := [.lit (.bool false)], args := [d1, d2, d3] }
  | _ => none }
def DictLittleWrongFalsely : Prop := dictLittleRow.holds Try.pinned (OpenSpec.ofChange dictLittleWrong)

/-- 'pantrylaw05.DictPlaced': WHATEVER THE INPUT: true; the input reads as it did. -/
def dictPlacedSpec : ChangeSpec := { name := "dictPlaced", fn := fun _ => fun
  | [d1, d2] => { results := [.lit (.bool true)], args := [d1, d2] }
  | _ => none }
def dictPlacedRow : OpenClaim := { program := "ytkecipdonamjaaa", sum := "331b827950a0a68fae7f4bfd63f01d8734e54aba74986e4abf43a6c9b6d07add", func := "pantry/pantrylaw05.DictPlaced", spec := "dictPlaced", apart := false }
def DictPlacedSaid : Prop := dictPlacedRow.holds Try.pinned (OpenSpec.ofChange dictPlacedSpec)

/-- ITS FALSE NEIGHBOUR: 'it returns false'. Refute it at one input. -/
def dictPlacedWrong : ChangeSpec := { name := "dictPlaced", fn := fun _ => fun
  | [d1, d2] => { results := [.lit (.bool false)], args := [d1, d2] }
  | _ => none }
def DictPlacedWrongFalsely : Prop := dictPlacedRow.holds Try.pinned (OpenSpec.ofChange dictPlacedWrong)

/-- 'pantrylaw05.DictKnown': WHATEVER THE INPUT: true; the input reads as it did. -/
def dictKnownSpec : ChangeSpec := { name := "dictKnown", fn := fun _ => fun
  | [] => { results := [.lit (.bool true)], args := [] }
  | _ => none }
def dictKnownRow : OpenClaim := { program := "ytkecipdonamjaaa", sum := "331b827950a0a68fae7f4bfd63f01d8734e54aba74986e4abf43a6c9b6d07add", func := "pantry/pantrylaw05.DictKnown", spec := "dictKnown", apart := false }
def DictKnownSaid : Prop := dictKnownRow.holds Try.pinned (OpenSpec.ofChange dictKnownSpec)

/-- ITS FALSE NEIGHBOUR: 'it returns false'. Refute it at one input. -/
def dictKnownWrong : ChangeSpec := { name := "dictKnown", fn := fun _ => fun
  | [] => { results := [.lit (.bool false)], args := [] }
  | _ => none }
def DictKnownWrongFalsely : Prop := dictKnownRow.holds Try.pinned (OpenSpec.ofChange dictKnownWrong)

/-- 'pantrylaw05.DictDrawn': WHATEVER THE INPUT: true; the input reads as it did. -/
def dictDrawnSpec : ChangeSpec := { name := "dictDrawn", fn := fun _ => fun
  | [d1, d2, d3] => { results := [.lit (.bool true)], args := [d1, d2, d3] }
  | _ => none }
def dictDrawnRow : OpenClaim := { program := "ytkecipdonamjaaa", sum := "331b827950a0a68fae7f4bfd63f01d8734e54aba74986e4abf43a6c9b6d07add", func := "pantry/pantrylaw05.DictDrawn", spec := "dictDrawn", apart := false }
def DictDrawnSaid : Prop := dictDrawnRow.holds Try.pinned (OpenSpec.ofChange dictDrawnSpec)

/-- ITS FALSE NEIGHBOUR: 'it returns false'. Refute it at one input. -/
def dictDrawnWrong : ChangeSpec := { name := "dictDrawn", fn := fun _ => fun
  | [d1, d2, d3] => { results := [.lit (.bool false)], args := [d1, d2, d3] }
  | _ => none }
def DictDrawnWrongFalsely : Prop := dictDrawnRow.holds Try.pinned (OpenSpec.ofChange dictDrawnWrong)

/-- 'pantrylaw05.DictIsTable': WHATEVER THE INPUT: true; the input reads as it did. -/
def dictIsTableSpec : ChangeSpec := { name := "dictIsTable", fn := fun _ => fun
  | [d1, d2] => { results := [.lit (.bool true)], args := [d1, d2] }
  | _ => none }
def dictIsTableRow : OpenClaim := { program := "ytkecipdonamjaaa", sum := "331b827950a0a68fae7f4bfd63f01d8734e54aba74986e4abf43a6c9b6d07add", func := "pantry/pantrylaw05.DictIsTable", spec := "dictIsTable", unfollowed := true, recurses := true, apart := false }
def DictIsTableSaid : Prop := dictIsTableRow.holds Try.pinned (OpenSpec.ofChange dictIsTableSpec)

/-- ITS FALSE NEIGHBOUR: 'it returns false'. Refute it at one input. -/
def dictIsTableWrong : ChangeSpec := { name := "dictIsTable", fn := fun _ => fun
  | [d1, d2] => { results := [.lit (.bool false)], args := [d1, d2] }
  | _ => none }
def DictIsTableWrongFalsely : Prop := dictIsTableRow.holds Try.pinned (OpenSpec.ofChange dictIsTableWrong)

/-- 'pantrylaw05.DictRanged': WHATEVER THE INPUT: true; the input reads as it did. -/
def dictRangedSpec : ChangeSpec := { name := "dictRanged", fn := fun _ => fun
  | [d1, d2, d3] => { results := [.lit (.bool true)], args := [d1, d2, d3] }
  | _ => none }
def dictRangedRow : OpenClaim := { program := "ytkecipdonamjaaa", sum := "331b827950a0a68fae7f4bfd63f01d8734e54aba74986e4abf43a6c9b6d07add", func := "pantry/pantrylaw05.DictRanged", spec := "dictRanged", unfollowed := true, recurses := true, apart := false }
def DictRangedSaid : Prop := dictRangedRow.holds Try.pinned (OpenSpec.ofChange dictRangedSpec)

/-- ITS FALSE NEIGHBOUR: 'it returns false'. Refute it at one input. -/
def dictRangedWrong : ChangeSpec := { name := "dictRanged", fn := fun _ => fun
  | [d1, d2, d3] => { results := [.lit (.bool false)], args := [d1, d2, d3] }
  | _ => none }
def DictRangedWrongFalsely : Prop := dictRangedRow.holds Try.pinned (OpenSpec.ofChange dictRangedWrong)

/-- 'pantrylaw06.ScanNil': WHATEVER THE INPUT: true; the input reads as it did. -/
def scanNilSpec : ChangeSpec := { name := "scanNil", fn := fun _ => fun
  | [d1, d2] => { results := [.lit (.bool true)], args := [d1, d2] }
  | _ => none }
def scanNilRow : OpenClaim := { program := "ytkecipdonamjaaa", sum := "331b827950a0a68fae7f4bfd63f01d8734e54aba74986e4abf43a6c9b6d07add", func := "pantry/pantrylaw06.ScanNil", spec := "scanNil", unfollowed := true, recurses := true, apart := false }
def ScanNilSaid : Prop := scanNilRow.holds Try.pinned (OpenSpec.ofChange scanNilSpec)

/-- ITS FALSE NEIGHBOUR: 'it returns false'. Refute it at one input. -/
def scanNilWrong : ChangeSpec := { name := "scanNil", fn := fun _ => fun
  | [d1, d2] => { results := [.lit (.bool false)], args := [d1, d2] }
  | _ => none }
def ScanNilWrongFalsely : Prop := scanNilRow.holds Try.pinned (OpenSpec.ofChange scanNilWrong)

/-- 'pantrylaw05.DictPlays': WHATEVER THE INPUT: true; the input reads as it did. -/
def dictPlaysSpec : ChangeSpec := { name := "dictPlays", fn := fun _ => fun
  | [d1, d2, d3] => { results := [.lit (.bool true)], args := [d1, d2, d3] }
  | _ => none }
def dictPlaysRow : OpenClaim := { program := "ytkecipdonamjaaa", sum := "331b827950a0a68fae7f4bfd63f01d8734e54aba74986e4abf43a6c9b6d07add", func := "pantry/pantrylaw05.DictPlays", spec := "dictPlays", unfollowed := true, recurses := true, apart := false }
def DictPlaysSaid : Prop := dictPlaysRow.holds Try.pinned (OpenSpec.ofChange dictPlaysSpec)

/-- ITS FALSE NEIGHBOUR: 'it returns false'. Refute it at one input. -/
def dictPlaysWrong : ChangeSpec := { name := "dictPlays", fn := fun _ => fun
  | [d1, d2, d3] => { results := [.lit (.bool false)], args := [d1, d2, d3] }
  | _ => none }
def DictPlaysWrongFalsely : Prop := dictPlaysRow.holds Try.pinned (OpenSpec.ofChange dictPlaysWrong)

/-- 'pantrylaw05.DictNone': WHATEVER THE INPUT: true; the input reads as it did. -/
def dictNoneSpec : ChangeSpec := { name := "dictNone", fn := fun _ => fun
  | [] => { results := [.lit (.bool true)], args := [] }
  | _ => none }
def dictNoneRow : OpenClaim := { program := "ytkecipdonamjaaa", sum := "331b827950a0a68fae7f4bfd63f01d8734e54aba74986e4abf43a6c9b6d07add", func := "pantry/pantrylaw05.DictNone", spec := "dictNone", unfollowed := true, recurses := true, apart := false }
def DictNoneSaid : Prop := dictNoneRow.holds Try.pinned (OpenSpec.ofChange dictNoneSpec)

/-- ITS FALSE NEIGHBOUR: 'it returns false'. Refute it at one input. -/
def dictNoneWrong : ChangeSpec := { name := "dictNone", fn := fun _ => fun
  | [] => { results := [.lit (.bool false)], args := [] }
  | _ => none }
def DictNoneWrongFalsely : Prop := dictNoneRow.holds Try.pinned (OpenSpec.ofChange dictNoneWrong)

/-- 'pantrylaw06.ScanTells': WHATEVER THE INPUT: true; the input reads as it did. -/
def scanTellsSpec : ChangeSpec := { name := "scanTells", fn := fun _ => fun
  | [d1, d2, d3, d4] => { results := [.lit (.bool true)], args := [d1, d2, d3, d4] }
  | _ => none }
def scanTellsRow : OpenClaim := { program := "ytkecipdonamjaaa", sum := "331b827950a0a68fae7f4bfd63f01d8734e54aba74986e4abf43a6c9b6d07add", func := "pantry/pantrylaw06.ScanTells", spec := "scanTells", unfollowed := true, recurses := true, apart := false }
def ScanTellsSaid : Prop := scanTellsRow.holds Try.pinned (OpenSpec.ofChange scanTellsSpec)

/-- ITS FALSE NEIGHBOUR: 'it returns false'. Refute it at one input. -/
def scanTellsWrong : ChangeSpec := { name := "scanTells", fn := fun _ => fun
  | [d1, d2, d3, d4] => { results := [.lit (.bool false)], args := [d1, d2, d3, d4] }
  | _ => none }
def ScanTellsWrongFalsely : Prop := scanTellsRow.holds Try.pinned (OpenSpec.ofChange scanTellsWrong)

/-- 'pantrylaw06.ScanMisses': WHATEVER THE INPUT: true; the input reads as it did. -/
def scanMissesSpec : ChangeSpec := { name := "scanMisses", fn := fun _ => fun
  | [d1, d2, d3] => { results := [.lit (.bool true)], args := [d1, d2, d3] }
  | _ => none }
def scanMissesRow : OpenClaim := { program := "ytkecipdonamjaaa", sum := "331b827950a0a68fae7f4bfd63f01d8734e54aba74986e4abf43a6c9b6d07add", func := "pantry/pantrylaw06.ScanMisses", spec := "scanMisses", unfollowed := true, recurses := true, apart := false }
def ScanMissesSaid : Prop := scanMissesRow.holds Try.pinned (OpenSpec.ofChange scanMissesSpec)

/-- ITS FALSE NEIGHBOUR: 'it returns false'. Refute it at one input. -/
def scanMissesWrong : ChangeSpec := { name := "scanMisses", fn := fun _ => fun
  | [d1, d2, d3] => { results := [.lit (.bool false)], args := [d1, d2, d3] }
  | _ => none }
def ScanMissesWrongFalsely : Prop := scanMissesRow.holds Try.pinned (OpenSpec.ofChange scanMissesWrong)

/-- 'pantrylaw06.ScanOnce': WHATEVER THE INPUT: true; the input reads as it did. -/
def scanOnceSpec : ChangeSpec := { name := "scanOnce", fn := fun _ => fun
  | [d1, d2, d3, d4, d5] => { results := [.lit (.bool true)], args := [d1, d2, d3, d4, d5] }
  | _ => none }
def scanOnceRow : OpenClaim := { program := "ytkecipdonamjaaa", sum := "331b827950a0a68fae7f4bfd63f01d8734e54aba74986e4abf43a6c9b6d07add", func := "pantry/pantrylaw06.ScanOnce", spec := "scanOnce", unfollowed := true, recurses := true, apart := false }
def ScanOnceSaid : Prop := scanOnceRow.holds Try.pinned (OpenSpec.ofChange scanOnceSpec)

/-- ITS FALSE NEIGHBOUR: 'it returns false'. Refute it at one input. -/
def scanOnceWrong : ChangeSpec := { name := "scanOnce", fn := fun _ => fun
  | [d1, d2, d3, d4, d5] => { results := [.lit (.bool false)], args := [d1, d2, d3, d4, d5] }
  | _ => none }
def ScanOnceWrongFalsely : Prop := scanOnceRow.holds Try.pinned (OpenSpec.ofChange scanOnceWrong)

/- THE SECOND FORM. 'bulk': how many values and letters a reading holds, each counted each time it is reached (what is shared counts as often as it is met; a slice's spare places count too). A statement '..UptoSaid' is the law's where the arguments, and the package variables that the reading takes, are together of bulk at most 1048576: NARROWER than '..Said'. Prove '..Said' where nothing that the law and all that it calls make is longer than what came in: it says more and counts as full. Else prove '..UptoSaid'. A law counts once. -/
mutual
def uptoBulk {H : Type} : DataW H → Nat
  | .lit (.string bytes) => bytes.length + 1
  | .lit _ => 1
  | .nil => 1
  | .ptr d => uptoBulk d + 1
  | .slice elems spare => uptoBulkAll elems + uptoBulkAll spare + 1
  | .agg parts => uptoBulkAll parts + 1
  | .iface _ d => uptoBulk d + 1
  | .map entries => uptoBulkEntries entries + 1
  | .held _ => 1
def uptoBulkAll {H : Type} : List (DataW H) → Nat
  | [] => 0
  | d :: r => uptoBulk d + uptoBulkAll r
def uptoBulkEntries {H : Type} : List (Lit × DataW H) → Nat
  | [] => 0
  | x :: r => uptoBulkEntry x + uptoBulkEntries r
def uptoBulkEntry {H : Type} : Lit × DataW H → Nat
  | (.string bytes, d) => bytes.length + uptoBulk d + 1
  | (_, d) => uptoBulk d + 1
 end
def uptoSmall : (H : Type) → List (DataW H) → Bool := fun _ ds => decide (uptoBulkAll ds ≤ 1048576)
def OpenSpec.upto (s : _root_.Go.ChangeSpec) : _root_.Go.OpenSpec := { _root_.Go.OpenSpec.ofChange s with cond := some uptoSmall }

/-- 'pantrylaw06.ScanAfters', WHERE WHAT IT READS IS OF BULK AT MOST 1048576: true; the input reads as it did. -/
def scanAftersUptoRow : OpenClaim := { program := "ytkecipdonamjaaa", sum := "331b827950a0a68fae7f4bfd63f01d8734e54aba74986e4abf43a6c9b6d07add", func := "pantry/pantrylaw06.ScanAfters", spec := "scanAfters", apart := false, narrowed := true }
def ScanAftersUptoSaid : Prop := scanAftersUptoRow.holds Try.pinned (OpenSpec.upto scanAftersSpec)

/-- 'pantrylaw06.ScanRound', WHERE WHAT IT READS IS OF BULK AT MOST 1048576: true; the input reads as it did. -/
def scanRoundUptoRow : OpenClaim := { program := "ytkecipdonamjaaa", sum := "331b827950a0a68fae7f4bfd63f01d8734e54aba74986e4abf43a6c9b6d07add", func := "pantry/pantrylaw06.ScanRound", spec := "scanRound", apart := false, narrowed := true }
def ScanRoundUptoSaid : Prop := scanRoundUptoRow.holds Try.pinned (OpenSpec.upto scanRoundSpec)

/-- 'pantrylaw05.DictSeeds', WHERE WHAT IT READS IS OF BULK AT MOST 1048576: true; the input reads as it did. -/
def dictSeedsUptoRow : OpenClaim := { program := "ytkecipdonamjaaa", sum := "331b827950a0a68fae7f4bfd63f01d8734e54aba74986e4abf43a6c9b6d07add", func := "pantry/pantrylaw05.DictSeeds", spec := "dictSeeds", apart := false, narrowed := true }
def DictSeedsUptoSaid : Prop := dictSeedsUptoRow.holds Try.pinned (OpenSpec.upto dictSeedsSpec)

/-- 'pantrylaw05.DictLittle', WHERE WHAT IT READS IS OF BULK AT MOST 1048576: true; the input reads as it did. -/
def dictLittleUptoRow : OpenClaim := { program := "ytkecipdonamjaaa", sum := "331b827950a0a68fae7f4bfd63f01d8734e54aba74986e4abf43a6c9b6d07add", func := "pantry/pantrylaw05.DictLittle", spec := "dictLittle", apart := false, narrowed := true }
def DictLittleUptoSaid : Prop := dictLittleUptoRow.holds Try.pinned (OpenSpec.upto dictLittleSpec)

/-- 'pantrylaw05.DictPlaced', WHERE WHAT IT READS IS OF BULK AT MOST 1048576: true; the input reads as it did. -/
def dictPlacedUptoRow : OpenClaim := { program := "ytkecipdonamjaaa", sum := "331b827950a0a68fae7f4bfd63f01d8734e54aba74986e4abf43a6c9b6d07add", func := "pantry/pantrylaw05.DictPlaced", spec := "dictPlaced", apart := false, narrowed := true }
def DictPlacedUptoSaid : Prop := dictPlacedUptoRow.holds Try.pinned (OpenSpec.upto dictPlacedSpec)

/-- 'pantrylaw05.DictKnown', WHERE WHAT IT READS IS OF BULK AT MOST 1048576: true; the input reads as it did. -/
def dictKnownUptoRow : OpenClaim := { program := "ytkecipdonamjaaa", sum := "331b827950a0a68fae7f4bfd63f01d8734e54aba74986e4abf43a6c9b6d07add", func := "pantry/pantrylaw05.DictKnown", spec := "dictKnown", apart := false, narrowed := true }
def DictKnownUptoSaid : Prop := dictKnownUptoRow.holds Try.pinned (OpenSpec.upto dictKnownSpec)

/-- 'pantrylaw05.DictDrawn', WHERE WHAT IT READS IS OF BULK AT MOST 1048576: true; the input reads as it did. -/
def dictDrawnUptoRow : OpenClaim := { program := "ytkecipdonamjaaa", sum := "331b827950a0a68fae7f4bfd63f01d8734e54aba74986e4abf43a6c9b6d07add", func := "pantry/pantrylaw05.DictDrawn", spec := "dictDrawn", apart := false, narrowed := true }
def DictDrawnUptoSaid : Prop := dictDrawnUptoRow.holds Try.pinned (OpenSpec.upto dictDrawnSpec)

/-- 'pantrylaw05.DictIsTable', WHERE WHAT IT READS IS OF BULK AT MOST 1048576: true; the input reads as it did. -/
def dictIsTableUptoRow : OpenClaim := { program := "ytkecipdonamjaaa", sum := "331b827950a0a68fae7f4bfd63f01d8734e54aba74986e4abf43a6c9b6d07add", func := "pantry/pantrylaw05.DictIsTable", spec := "dictIsTable", unfollowed := true, recurses := true, apart := false, narrowed := true }
def DictIsTableUptoSaid : Prop := dictIsTableUptoRow.holds Try.pinned (OpenSpec.upto dictIsTableSpec)

/-- 'pantrylaw05.DictRanged', WHERE WHAT IT READS IS OF BULK AT MOST 1048576: true; the input reads as it did. -/
def dictRangedUptoRow : OpenClaim := { program := "ytkecipdonamjaaa", sum := "331b827950a0a68fae7f4bfd63f01d8734e54aba74986e4abf43a6c9b6d07add", func := "pantry/pantrylaw05.DictRanged", spec := "dictRanged", unfollowed := true, recurses := true, apart := false, narrowed := true }
def DictRangedUptoSaid : Prop := dictRangedUptoRow.holds Try.pinned (OpenSpec.upto dictRangedSpec)

/-- 'pantrylaw06.ScanNil', WHERE WHAT IT READS IS OF BULK AT MOST 1048576: true; the input reads as it did. -/
def scanNilUptoRow : OpenClaim := { program := "ytkecipdonamjaaa", sum := "331b827950a0a68fae7f4bfd63f01d8734e54aba74986e4abf43a6c9b6d07add", func := "pantry/pantrylaw06.ScanNil", spec := "scanNil", unfollowed := true, recurses := true, apart := false, narrowed := true }
def ScanNilUptoSaid : Prop := scanNilUptoRow.holds Try.pinned (OpenSpec.upto scanNilSpec)

/-- 'pantrylaw05.DictPlays', WHERE WHAT IT READS IS OF BULK AT MOST 1048576: true; the input reads as it did. -/
def dictPlaysUptoRow : OpenClaim := { program := "ytkecipdonamjaaa", sum := "331b827950a0a68fae7f4bfd63f01d8734e54aba74986e4abf43a6c9b6d07add", func := "pantry/pantrylaw05.DictPlays", spec := "dictPlays", unfollowed := true, recurses := true, apart := false, narrowed := true }
def DictPlaysUptoSaid : Prop := dictPlaysUptoRow.holds Try.pinned (OpenSpec.upto dictPlaysSpec)

/-- 'pantrylaw05.DictNone', WHERE WHAT IT READS IS OF BULK AT MOST 1048576: true; the input reads as it did. -/
def dictNoneUptoRow : OpenClaim := { program := "ytkecipdonamjaaa", sum := "331b827950a0a68fae7f4bfd63f01d8734e54aba74986e4abf43a6c9b6d07add", func := "pantry/pantrylaw05.DictNone", spec := "dictNone", unfollowed := true, recurses := true, apart := false, narrowed := true }
def DictNoneUptoSaid : Prop := dictNoneUptoRow.holds Try.pinned (OpenSpec.upto dictNoneSpec)

/-- 'pantrylaw06.ScanTells', WHERE WHAT IT READS IS OF BULK AT MOST 1048576: true; the input reads as it did. -/
def scanTellsUptoRow : OpenClaim := { program := "ytkecipdonamjaaa", sum := "331b827950a0a68fae7f4bfd63f01d8734e54aba74986e4abf43a6c9b6d07add", func := "pantry/pantrylaw06.ScanTells", spec := "scanTells", unfollowed := true, recurses := true, apart := false, narrowed := true }
def ScanTellsUptoSaid : Prop := scanTellsUptoRow.holds Try.pinned (OpenSpec.upto scanTellsSpec)

/-- 'pantrylaw06.ScanMisses', WHERE WHAT IT READS IS OF BULK AT MOST 1048576: true; the input reads as it did. -/
def scanMissesUptoRow : OpenClaim := { program := "ytkecipdonamjaaa", sum := "331b827950a0a68fae7f4bfd63f01d8734e54aba74986e4abf43a6c9b6d07add", func := "pantry/pantrylaw06.ScanMisses", spec := "scanMisses", unfollowed := true, recurses := true, apart := false, narrowed := true }
def ScanMissesUptoSaid : Prop := scanMissesUptoRow.holds Try.pinned (OpenSpec.upto scanMissesSpec)

/-- 'pantrylaw06.ScanOnce', WHERE WHAT IT READS IS OF BULK AT MOST 1048576: true; the input reads as it did. -/
def scanOnceUptoRow : OpenClaim := { program := "ytkecipdonamjaaa", sum := "331b827950a0a68fae7f4bfd63f01d8734e54aba74986e4abf43a6c9b6d07add", func := "pantry/pantrylaw06.ScanOnce", spec := "scanOnce", unfollowed := true, recurses := true, apart := false, narrowed := true }
def ScanOnceUptoSaid : Prop := scanOnceUptoRow.holds Try.pinned (OpenSpec.upto scanOnceSpec)

end Rows
end Go.Proofs.Ytkecipdonamjaaa

/-
  No cell of these rows narrows 'for every input' (looked for: loops, veiled, ifaces, maps, wideKeys, modest, calm, conditions, laid).
  DERIVED. THE GIVEN ROWS OF THIS SEAT. 11 by the template 'for every input the law returns true; each argument reads behind the call as it read before'; 0 by the template 'total and deterministic' (their statements: YtpcjogmikgfgdaaTotals.lean).
  GIVEN WITH THE SEED: the statements are not yours to turn. If you find one false, say at which input.
  Laid BY PROGRAM, IN A SANDBOX (cutbox-rows.mjs): the forced cells as the released guide's own fill.sh prints them over the translation 4f24aa6b3dcbcc57… (all of the seat's roots in one cut). By AI agents, Wed Nov 11 2026. No macro, syntax, notation, axiom, sorry.
-/
import Derived.Test.YtpcjogmikgfgdaaChecked
import GoSem.Claim
import GoSem.ClaimJoined
import GoSem.ClaimMapViews
import Derived.JoinedTies
import Derived.KernelRfl
namespace Go.Proofs.Ytpcjogmikgfgdaa
/- THE CELL 'sum', in the pinned program and in every row, IS THE sha256 OF THE DUMP (.gsa) THAT YtpcjogmikgfgdaaProg.lean LOADS. Nothing in Lean hashes anything: it is a label: what it is worth is what the hold of that sum in a sandbox is worth. -/
noncomputable def Try.pinned : Pinned := { name := "ytpcjogmikgfgdaa", sum := "4f24aa6b3dcbcc576df84777bcaf688b3d9aa4535b71481a3e87acd03312b2cc", checked := Try.checked }
namespace Rows
def none {H : Type} : Left H := { results := [], args := [] }

/-- 'pantrylaw04.DrawTakes': WHATEVER THE INPUT: true; the input reads as it did. -/
def drawTakesSpec : ChangeSpec := { name := "drawTakes", fn := fun _ => fun
  | [d1, d2, d3] => { results := [.lit (.bool true)], args := [d1, d2, d3] }
  | _ => none }
def drawTakesRow : OpenClaim := { program := "ytpcjogmikgfgdaa", sum := "4f24aa6b3dcbcc576df84777bcaf688b3d9aa4535b71481a3e87acd03312b2cc", func := "pantry/pantrylaw04.DrawTakes", spec := "drawTakes", apart := false }
def DrawTakesSaid : Prop := drawTakesRow.holds Try.pinned (OpenSpec.ofChange drawTakesSpec)

/-- ITS FALSE NEIGHBOUR: 'it returns false'. Refute it at one input. -/
def drawTakesWrong : ChangeSpec := { name := "drawTakes", fn := fun _ => fun
  | [d1, d2, d3] => { results := [.lit (.bool false)], args := [d1, d2, d3] }
  | _ => none }
def DrawTakesWrongFalsely : Prop := drawTakesRow.holds Try.pinned (OpenSpec.ofChange drawTakesWrong)

/-- 'pantrylaw26.SessionKeeps': WHATEVER THE INPUT: true; the input reads as it did. -/
def sessionKeepsSpec : ChangeSpec := { name := "sessionKeeps", fn := fun _ => fun
  | [d] => { results := [.lit (.bool true)], args := [d] }
  | _ => none }
def sessionKeepsRow : OpenClaim := { program := "ytpcjogmikgfgdaa", sum := "4f24aa6b3dcbcc576df84777bcaf688b3d9aa4535b71481a3e87acd03312b2cc", func := "pantry/pantrylaw26.SessionKeeps", spec := "sessionKeeps", apart := false }
def SessionKeepsSaid : Prop := sessionKeepsRow.holds Try.pinned (OpenSpec.ofChange sessionKeepsSpec)

/-- ITS FALSE NEIGHBOUR: 'it returns false'. Refute it at one input. -/
def sessionKeepsWrong : ChangeSpec := { name := "sessionKeeps", fn := fun _ => fun
  | [d] => { results := [.lit (.bool false)], args := [d] }
  | _ => none }
def SessionKeepsWrongFalsely : Prop := sessionKeepsRow.holds Try.pinned (OpenSpec.ofChange sessionKeepsWrong)

/-- 'pantrylaw26.SessionSees': WHATEVER THE INPUT: true; the input reads as it did. -/
def sessionSeesSpec : ChangeSpec := { name := "sessionSees", fn := fun _ => fun
  | [d] => { results := [.lit (.bool true)], args := [d] }
  | _ => none }
def sessionSeesRow : OpenClaim := { program := "ytpcjogmikgfgdaa", sum := "4f24aa6b3dcbcc576df84777bcaf688b3d9aa4535b71481a3e87acd03312b2cc", func := "pantry/pantrylaw26.SessionSees", spec := "sessionSees", recurses := true, apart := false }
def SessionSeesSaid : Prop := sessionSeesRow.holds Try.pinned (OpenSpec.ofChange sessionSeesSpec)

/-- ITS FALSE NEIGHBOUR: 'it returns false'. Refute it at one input. -/
def sessionSeesWrong : ChangeSpec := { name := "sessionSees", fn := fun _ => fun
  | [d] => { results := [.lit (.bool false)], args := [d] }
  | _ => none }
def SessionSeesWrongFalsely : Prop := sessionSeesRow.holds Try.pinned (OpenSpec.ofChange sessionSeesWrong)

/-- 'pantrylaw26.SessionNone': WHATEVER THE INPUT: true; the input reads as it did. -/
def sessionNoneSpec : ChangeSpec := { name := "sessionNone", fn := fun _ => fun
  | [] => { results := [.lit (.bool true)], args := [] }
  | _ => none }
def sessionNoneRow : OpenClaim := { program := "ytpcjogmikgfgdaa", sum := "4f24aa6b3dcbcc576df84777bcaf688b3d9aa4535b71481a3e87acd03312b2cc", func := "pantry/pantrylaw26.SessionNone", spec := "sessionNone", recurses := true, apart := false }
def SessionNoneSaid : Prop := sessionNoneRow.holds Try.pinned (OpenSpec.ofChange sessionNoneSpec)

/-- ITS FALSE NEIGHBOUR: 'it returns false'. Refute it at one input. -/
def sessionNoneWrong : ChangeSpec := { name := "sessionNone", fn := fun _ => fun
  | [] => { results := [.lit (.bool false)], args := [] }
  | _ => none }
def SessionNoneWrongFalsely : Prop := sessionNoneRow.holds Try.pinned (OpenSpec.ofChange sessionNoneWrong)

/-- 'pantrylaw26.SessionPlays': WHATEVER THE INPUT: true; the input reads as it did. -/
def sessionPlaysSpec : ChangeSpec := { name := "sessionPlays", fn := fun _ => fun
  | [d] => { results := [.lit (.bool true)], args := [d] }
  | _ => none }
def sessionPlaysRow : OpenClaim := { program := "ytpcjogmikgfgdaa", sum := "4f24aa6b3dcbcc576df84777bcaf688b3d9aa4535b71481a3e87acd03312b2cc", func := "pantry/pantrylaw26.SessionPlays", spec := "sessionPlays", recurses := true, apart := false }
def SessionPlaysSaid : Prop := sessionPlaysRow.holds Try.pinned (OpenSpec.ofChange sessionPlaysSpec)

/-- ITS FALSE NEIGHBOUR: 'it returns false'. Refute it at one input. -/
def sessionPlaysWrong : ChangeSpec := { name := "sessionPlays", fn := fun _ => fun
  | [d] => { results := [.lit (.bool false)], args := [d] }
  | _ => none }
def SessionPlaysWrongFalsely : Prop := sessionPlaysRow.holds Try.pinned (OpenSpec.ofChange sessionPlaysWrong)

/-- 'pantrylaw26.SessionKnown': WHATEVER THE INPUT: true; the input reads as it did. -/
def sessionKnownSpec : ChangeSpec := { name := "sessionKnown", fn := fun _ => fun
  | [] => { results := [.lit (.bool true)], args := [] }
  | _ => none }
def sessionKnownRow : OpenClaim := { program := "ytpcjogmikgfgdaa", sum := "4f24aa6b3dcbcc576df84777bcaf688b3d9aa4535b71481a3e87acd03312b2cc", func := "pantry/pantrylaw26.SessionKnown", spec := "sessionKnown", recurses := true, apart := false }
def SessionKnownSaid : Prop := sessionKnownRow.holds Try.pinned (OpenSpec.ofChange sessionKnownSpec)

/-- ITS FALSE NEIGHBOUR: 'it returns false'. Refute it at one input. -/
def sessionKnownWrong : ChangeSpec := { name := "sessionKnown", fn := fun _ => fun
  | [] => { results := [.lit (.bool false)], args := [] }
  | _ => none }
def SessionKnownWrongFalsely : Prop := sessionKnownRow.holds Try.pinned (OpenSpec.ofChange sessionKnownWrong)

/-- 'pantrylaw14.PoolSoonest': WHATEVER THE INPUT: true; the input reads as it did. -/
def poolSoonestSpec : ChangeSpec := { name := "poolSoonest", fn := fun _ => fun
  | [d1, d2] => { results := [.lit (.bool true)], args := [d1, d2] }
  | _ => none }
def poolSoonestRow : OpenClaim := { program := "ytpcjogmikgfgdaa", sum := "4f24aa6b3dcbcc576df84777bcaf688b3d9aa4535b71481a3e87acd03312b2cc", func := "pantry/pantrylaw14.PoolSoonest", spec := "poolSoonest", unfollowed := true, recurses := true, apart := false }
def PoolSoonestSaid : Prop := poolSoonestRow.holds Try.pinned (OpenSpec.ofChange poolSoonestSpec)

/-- ITS FALSE NEIGHBOUR: 'it returns false'. Refute it at one input. -/
def poolSoonestWrong : ChangeSpec := { name := "poolSoonest", fn := fun _ => fun
  | [d1, d2] => { results := [.lit (.bool false)], args := [d1, d2] }
  | _ => none }
def PoolSoonestWrongFalsely : Prop := poolSoonestRow.holds Try.pinned (OpenSpec.ofChange poolSoonestWrong)

/-- 'pantrylaw14.PoolKnown': WHATEVER THE INPUT: true; the input reads as it did. -/
def poolKnownSpec : ChangeSpec := { name := "poolKnown", fn := fun _ => fun
  | [] => { results := [.lit (.bool true)], args := [] }
  | _ => none }
def poolKnownRow : OpenClaim := { program := "ytpcjogmikgfgdaa", sum := "4f24aa6b3dcbcc576df84777bcaf688b3d9aa4535b71481a3e87acd03312b2cc", func := "pantry/pantrylaw14.PoolKnown", spec := "poolKnown", unfollowed := true, recurses := true, apart := false }
def PoolKnownSaid : Prop := poolKnownRow.holds Try.pinned (OpenSpec.ofChange poolKnownSpec)

/-- ITS FALSE NEIGHBOUR: 'it returns false'. Refute it at one input. -/
def poolKnownWrong : ChangeSpec := { name := "poolKnown", fn := fun _ => fun
  | [] => { results := [.lit (.bool false)], args := [] }
  | _ => none }
def PoolKnownWrongFalsely : Prop := poolKnownRow.holds Try.pinned (OpenSpec.ofChange poolKnownWrong)

/-- 'pantrylaw14.PoolPlays': WHATEVER THE INPUT: true; the input reads as it did. -/
def poolPlaysSpec : ChangeSpec := { name := "poolPlays", fn := fun _ => fun
  | [d1, d2, d3] => { results := [.lit (.bool true)], args := [d1, d2, d3] }
  | _ => none }
def poolPlaysRow : OpenClaim := { program := "ytpcjogmikgfgdaa", sum := "4f24aa6b3dcbcc576df84777bcaf688b3d9aa4535b71481a3e87acd03312b2cc", func := "pantry/pantrylaw14.PoolPlays", spec := "poolPlays", unfollowed := true, recurses := true, apart := false }
def PoolPlaysSaid : Prop := poolPlaysRow.holds Try.pinned (OpenSpec.ofChange poolPlaysSpec)

/-- ITS FALSE NEIGHBOUR: 'it returns false'. Refute it at one input. -/
def poolPlaysWrong : ChangeSpec := { name := "poolPlays", fn := fun _ => fun
  | [d1, d2, d3] => { results := [.lit (.bool false)], args := [d1, d2, d3] }
  | _ => none }
def PoolPlaysWrongFalsely : Prop := poolPlaysRow.holds Try.pinned (OpenSpec.ofChange poolPlaysWrong)

/-- 'pantrylaw14.PoolNone': WHATEVER THE INPUT: true; the input reads as it did. -/
def poolNoneSpec : ChangeSpec := { name := "poolNone", fn := fun _ => fun
  | [] => { results := [.lit (.bool true)], args := [] }
  | _ => none }
def poolNoneRow : OpenClaim := { program := "ytpcjogmikgfgdaa", sum := "4f24aa6b3dcbcc576df84777bcaf688b3d9aa4535b71481a3e87acd03312b2cc", func := "pantry/pantrylaw14.PoolNone", spec := "poolNone", unfollowed := true, recurses := true, apart := false }
def PoolNoneSaid : Prop := poolNoneRow.holds Try.pinned (OpenSpec.ofChange poolNoneSpec)

/-- ITS FALSE NEIGHBOUR: 'it returns false'. Refute it at one input. -/
def poolNoneWrong : ChangeSpec := { name := "poolNone", fn := fun _ => fun
  | [] => { results := [.lit (.bool false)], args := [] }
  | _ => none }
def PoolNoneWrongFalsely : Prop := poolNoneRow.holds Try.pinned (OpenSpec.ofChange poolNoneWrong)

/-- 'pantrylaw14.PoolRises': WHATEVER THE INPUT: true; the input reads as it did. -/
def poolRisesSpec : ChangeSpec := { name := "poolRises", fn := fun _ => fun
  | [d1, d2] => { results := [.lit (.bool true)], args := [d1, d2] }
  | _ => none }
def poolRisesRow : OpenClaim := { program := "ytpcjogmikgfgdaa", sum := "4f24aa6b3dcbcc576df84777bcaf688b3d9aa4535b71481a3e87acd03312b2cc", func := "pantry/pantrylaw14.PoolRises", spec := "poolRises", unfollowed := true, recurses := true, apart := false }
def PoolRisesSaid : Prop := poolRisesRow.holds Try.pinned (OpenSpec.ofChange poolRisesSpec)

/-- ITS FALSE NEIGHBOUR: 'it returns false'. Refute it at one input. -/
def poolRisesWrong : ChangeSpec := { name := "poolRises", fn := fun _ => fun
  | [d1, d2] => { results := [.lit (.bool false)], args := [d1, d2] }
  | _ => none }
def PoolRisesWrongFalsely : Prop := poolRisesRow.holds Try.pinned (OpenSpec.ofChange poolRisesWrong)

/- THE SECOND FORM. 'bulk': how many values and letters a reading holds, each counted each time it is reached (what is shared counts as often as it is met; a slice's spare places count too). A statement '..UptoSaid' is the law's where the arguments, and the package variables that the reading takes, are together of bulk at most 1048576: NARROWER than '..Said'. Prove '..Said' where nothing that the law and all that it calls make is longer than what came in: it says more and counts as full. Else prove '..UptoSaid'. A law counts once. -/
mutual
def uptoBulk {H : Type} : DataW H → Nat
  | .lit (.string bytes) => bytes.length + 1
  | .lit _ => 1
  | .nil => 1
  | .ptr d => uptoBulk d + 1
  | .slice elems spare => uptoBulkAll elems + uptoBulkAll spare + 1
  | .agg parts => uptoBulkAll parts + 1
  | .iface _ d => uptoBulk d + 1
  | .map entries => uptoBulkEntries entries + 1
  | .held _ => 1
def uptoBulkAll {H : Type} : List (DataW H) → Nat
  | [] => 0
  | d :: r => uptoBulk d + uptoBulkAll r
def uptoBulkEntries {H : Type} : List (Lit × DataW H) → Nat
  | [] => 0
  | x :: r => uptoBulkEntry x + uptoBulkEntries r
def uptoBulkEntry {H : Type} : Lit × DataW H → Nat
  | (.string bytes, d) => bytes.length + uptoBulk d + 1
  | (_, d) => uptoBulk d + 1
 end
def uptoSmall : (H : Type) → List (DataW H) → Bool := fun _ ds => decide (uptoBulkAll ds ≤ 1048576)
def OpenSpec.upto (s : _root_.Go.ChangeSpec) : _root_.Go.OpenSpec := { _root_.Go.OpenSpec.ofChange s with cond := some uptoSmall }

/-- 'pantrylaw04.DrawTakes', WHERE WHAT IT READS IS OF BULK AT MOST 1048576: true; the input reads as it did. -/
def drawTakesUptoRow : OpenClaim := { program := "ytpcjogmikgfgdaa", sum := "4f24aa6b3dcbcc576df84777bcaf688b3d9aa4535b71481a3e87acd03312b2cc", func := "pantry/pantrylaw04.DrawTakes", spec := "drawTakes", apart := false, narrowed := true }
def DrawTakesUptoSaid : Prop := drawTakesUptoRow.holds Try.pinned (OpenSpec.upto drawTakesSpec)

/-- 'pantrylaw26.SessionKeeps', WHERE WHAT IT READS IS OF BULK AT MOST 1048576: true; the input reads as it did. -/
def sessionKeepsUptoRow : OpenClaim := { program := "ytpcjogmikgfgdaa", sum := "4f24aa6b3dcbcc576df84777bcaf688b3d9aa4535b71481a3e87acd03312b2cc", func := "pantry/pantrylaw26.SessionKeeps", spec := "sessionKeeps", apart := false, narrowed := true }
def SessionKeepsUptoSaid : Prop := sessionKeepsUptoRow.holds Try.pinned (OpenSpec.upto sessionKeepsSpec)

/-- 'pantrylaw26.SessionSees', WHERE WHAT IT READS IS OF BULK AT MOST 1048576: true; the input reads as it did. -/
def sessionSeesUptoRow : OpenClaim := { program := "ytpcjogmikgfgdaa", sum := "4f24aa6b3dcbcc576df84777bcaf688b3d9aa4535b71481a3e87acd03312b2cc", func := "pantry/pantrylaw26.SessionSees", spec := "sessionSees", recurses := true, apart := false, narrowed := true }
def SessionSeesUptoSaid : Prop := sessionSeesUptoRow.holds Try.pinned (OpenSpec.upto sessionSeesSpec)

/-- 'pantrylaw26.SessionNone', WHERE WHAT IT READS IS OF BULK AT MOST 1048576: true; the input reads as it did. -/
def sessionNoneUptoRow : OpenClaim := { program := "ytpcjogmikgfgdaa", sum := "4f24aa6b3dcbcc576df84777bcaf688b3d9aa4535b71481a3e87acd03312b2cc", func := "pantry/pantrylaw26.SessionNone", spec := "sessionNone", recurses := true, apart := false, narrowed := true }
def SessionNoneUptoSaid : Prop := sessionNoneUptoRow.holds Try.pinned (OpenSpec.upto sessionNoneSpec)

/-- 'pantrylaw26.SessionPlays', WHERE WHAT IT READS IS OF BULK AT MOST 1048576: true; the input reads as it did. -/
def sessionPlaysUptoRow : OpenClaim := { program := "ytpcjogmikgfgdaa", sum := "4f24aa6b3dcbcc576df84777bcaf688b3d9aa4535b71481a3e87acd03312b2cc", func := "pantry/pantrylaw26.SessionPlays", spec := "sessionPlays", recurses := true, apart := false, narrowed := true }
def SessionPlaysUptoSaid : Prop := sessionPlaysUptoRow.holds Try.pinned (OpenSpec.upto sessionPlaysSpec)

/-- 'pantrylaw26.SessionKnown', WHERE WHAT IT READS IS OF BULK AT MOST 1048576: true; the input reads as it did. -/
def sessionKnownUptoRow : OpenClaim := { program := "ytpcjogmikgfgdaa", sum := "4f24aa6b3dcbcc576df84777bcaf688b3d9aa4535b71481a3e87acd03312b2cc", func := "pantry/pantrylaw26.SessionKnown", spec := "sessionKnown", recurses := true, apart := false, narrowed := true }
def SessionKnownUptoSaid : Prop := sessionKnownUptoRow.holds Try.pinned (OpenSpec.upto sessionKnownSpec)

/-- 'pantrylaw14.PoolSoonest', WHERE WHAT IT READS IS OF BULK AT MOST 1048576: true; the input reads as it did. -/
def poolSoonestUptoRow : OpenClaim := { program := "ytpcjogmikgfgdaa", sum := "4f24aa6b3dcbcc576df84777bcaf688b3d9aa4535b71481a3e87acd03312b2cc", func := "pantry/pantrylaw14.PoolSoonest", spec := "poolSoonest", unfollowed := true, recurses := true, apart := false, narrowed := true }
def PoolSoonestUptoSaid : Prop := poolSoonestUptoRow.holds Try.pinned (OpenSpec.upto poolSoonestSpec)

/-- 'pantrylaw14.PoolKnown', WHERE WHAT IT READS IS OF BULK AT MOST 1048576: true; the input reads as it did. -/
def poolKnownUptoRow : OpenClaim := { program := "ytpcjogmikgfgdaa", sum := "4f24aa6b3dcbcc576df84777bcaf688b3d9aa4535b71481a3e87acd03312b2cc", func := "pantry/pantrylaw14.PoolKnown", spec := "poolKnown", unfollowed := true, recurses := true, apart := false, narrowed := true }
def PoolKnownUptoSaid : Prop := poolKnownUptoRow.holds Try.pinned (OpenSpec.upto poolKnownSpec)

/-- 'pantrylaw14.PoolPlays', WHERE WHAT IT READS IS OF BULK AT MOST 1048576: true; the input reads as it did. -/
def poolPlaysUptoRow : OpenClaim := { program := "ytpcjogmikgfgdaa", sum := "4f24aa6b3dcbcc576df84777bcaf688b3d9aa4535b71481a3e87acd03312b2cc", func := "pantry/pantrylaw14.PoolPlays", spec := "poolPlays", unfollowed := true, recurses := true, apart := false, narrowed := true }
def PoolPlaysUptoSaid : Prop := poolPlaysUptoRow.holds Try.pinned (OpenSpec.upto poolPlaysSpec)

/-- 'pantrylaw14.PoolNone', WHERE WHAT IT READS IS OF BULK AT MOST 1048576: true; the input reads as it did. -/
def poolNoneUptoRow : OpenClaim := { program := "ytpcjogmikgfgdaa", sum := "4f24aa6b3dcbcc576df84777bcaf688b3d9aa4535b71481a3e87acd03312b2cc", func := "pantry/pantrylaw14.PoolNone", spec := "poolNone", unfollowed := true, recurses := true, apart := false, narrowed := true }
def PoolNoneUptoSaid : Prop := poolNoneUptoRow.holds Try.pinned (OpenSpec.upto poolNoneSpec)

/-- 'pantrylaw14.PoolRises', WHERE WHAT IT READS IS OF BULK AT MOST 1048576: true; the input reads as it did. -/
def poolRisesUptoRow : OpenClaim := { program := "ytpcjogmikgfgdaa", sum := "4f24aa6b3dcbcc576df84777bcaf688b3d9aa4535b71481a3e87acd03312b2cc", func := "pantry/pantrylaw14.PoolRises", spec := "poolRises", unfollowed := true, recurses := true, apart := false, narrowed := true }
def PoolRisesUptoSaid : Prop := poolRisesUptoRow.holds Try.pinned (OpenSpec.upto poolRisesSpec)

end Rows
end Go.Proofs.Ytpcjogmikgfgdaa

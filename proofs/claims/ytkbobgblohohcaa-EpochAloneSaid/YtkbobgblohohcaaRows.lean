/-
  No cell of these rows narrows 'for every input' (looked for: loops, veiled, ifaces, maps, wideKeys, modest, calm, conditions, laid).
  DERIVED. THE GIVEN ROWS OF THIS SEAT. 16 by the template 'for every input the law returns true; each argument reads behind the call as it read before'; 0 by the template 'total and deterministic' (their statements: YtkbobgblohohcaaTotals.lean).
  GIVEN WITH THE SEED: the statements are not yours to turn. If you find one false, say at which input.
  Laid BY PROGRAM, IN A SANDBOX (cutbox-rows.mjs): the forced cells as the released guide's own fill.sh prints them over the translation a25771eb94f51e84… (all of the seat's roots in one cut). By AI agents, Wed Nov 11 2026. No macro, syntax, notation, axiom, sorry.
-/
import Derived.Test.YtkbobgblohohcaaChecked
import GoSem.Claim
import GoSem.ClaimJoined
import GoSem.ClaimMapViews
import Derived.JoinedTies
import Derived.KernelRfl
namespace Go.Proofs.Ytkbobgblohohcaa
/- THE CELL 'sum', in the pinned program and in every row, IS THE sha256 OF THE DUMP (.gsa) THAT YtkbobgblohohcaaProg.lean LOADS. Nothing in Lean hashes anything: it is a label: what it is worth is what the hold of that sum in a sandbox is worth. -/
noncomputable def Try.pinned : Pinned := { name := "ytkbobgblohohcaa", sum := "a25771eb94f51e844723c4504103ea4ea392753ebdf42e28ab701f541d746d89", checked := Try.checked }
namespace Rows
def none {H : Type} : Left H := { results := [], args := [] }

/-- 'gatehouselaw14.CellsNames': WHATEVER THE INPUT: true; the input reads as it did. -/
def cellsNamesSpec : ChangeSpec := { name := "cellsNames", fn := fun _ => fun
  | [] => { results := [.lit (.bool true)], args := [] }
  | _ => none }
def cellsNamesRow : OpenClaim := { program := "ytkbobgblohohcaa", sum := "a25771eb94f51e844723c4504103ea4ea392753ebdf42e28ab701f541d746d89", func := "gatehouse/gatehouselaw14.CellsNames", spec := "cellsNames", apart := false }
def CellsNamesSaid : Prop := cellsNamesRow.holds Try.pinned (OpenSpec.ofChange cellsNamesSpec)

/-- ITS FALSE NEIGHBOUR: 'it returns false'. Refute it at one input. -/
def cellsNamesWrong : ChangeSpec := { name := "cellsNames", fn := fun _ => fun
  | [] => { results := [.lit (.bool false)], args := [] }
  | _ => none }
def CellsNamesWrongFalsely : Prop := cellsNamesRow.holds Try.pinned (OpenSpec.ofChange cellsNamesWrong)

/-- 'gatehouselaw14.CellsSum': WHATEVER THE INPUT: true; the input reads as it did. -/
def cellsSumSpec : ChangeSpec := { name := "cellsSum", fn := fun _ => fun
  | [d1, d2, d3] => { results := [.lit (.bool true)], args := [d1, d2, d3] }
  | _ => none }
def cellsSumRow : OpenClaim := { program := "ytkbobgblohohcaa", sum := "a25771eb94f51e844723c4504103ea4ea392753ebdf42e28ab701f541d746d89", func := "gatehouse/gatehouselaw14.CellsSum", spec := "cellsSum", apart := false }
def CellsSumSaid : Prop := cellsSumRow.holds Try.pinned (OpenSpec.ofChange cellsSumSpec)

/-- ITS FALSE NEIGHBOUR: 'it returns false'. Refute it at one input. -/
def cellsSumWrong : ChangeSpec := { name := "cellsSum", fn := fun _ => fun
  | [d1, d2, d3] => { results := [.lit (.bool false)], args := [d1, d2, d3] }
  | _ => none }
def CellsSumWrongFalsely : Prop := cellsSumRow.holds Try.pinned (OpenSpec.ofChange cellsSumWrong)

/-- 'gatehouselaw14.CellsWinner': WHATEVER THE INPUT: true; the input reads as it did. -/
def cellsWinnerSpec : ChangeSpec := { name := "cellsWinner", fn := fun _ => fun
  | [d1, d2, d3, d4] => { results := [.lit (.bool true)], args := [d1, d2, d3, d4] }
  | _ => none }
def cellsWinnerRow : OpenClaim := { program := "ytkbobgblohohcaa", sum := "a25771eb94f51e844723c4504103ea4ea392753ebdf42e28ab701f541d746d89", func := "gatehouse/gatehouselaw14.CellsWinner", spec := "cellsWinner", unfollowed := true, recurses := true, apart := false }
def CellsWinnerSaid : Prop := cellsWinnerRow.holds Try.pinned (OpenSpec.ofChange cellsWinnerSpec)

/-- ITS FALSE NEIGHBOUR: 'it returns false'. Refute it at one input. -/
def cellsWinnerWrong : ChangeSpec := { name := "cellsWinner", fn := fun _ => fun
  | [d1, d2, d3, d4] => { results := [.lit (.bool false)], args := [d1, d2, d3, d4] }
  | _ => none }
def CellsWinnerWrongFalsely : Prop := cellsWinnerRow.holds Try.pinned (OpenSpec.ofChange cellsWinnerWrong)

/-- 'gatehouselaw14.CellsPieces': WHATEVER THE INPUT: true; the input reads as it did. -/
def cellsPiecesSpec : ChangeSpec := { name := "cellsPieces", fn := fun _ => fun
  | [d1, d2, d3] => { results := [.lit (.bool true)], args := [d1, d2, d3] }
  | _ => none }
def cellsPiecesRow : OpenClaim := { program := "ytkbobgblohohcaa", sum := "a25771eb94f51e844723c4504103ea4ea392753ebdf42e28ab701f541d746d89", func := "gatehouse/gatehouselaw14.CellsPieces", spec := "cellsPieces", unfollowed := true, recurses := true, apart := false }
def CellsPiecesSaid : Prop := cellsPiecesRow.holds Try.pinned (OpenSpec.ofChange cellsPiecesSpec)

/-- ITS FALSE NEIGHBOUR: 'it returns false'. Refute it at one input. -/
def cellsPiecesWrong : ChangeSpec := { name := "cellsPieces", fn := fun _ => fun
  | [d1, d2, d3] => { results := [.lit (.bool false)], args := [d1, d2, d3] }
  | _ => none }
def CellsPiecesWrongFalsely : Prop := cellsPiecesRow.holds Try.pinned (OpenSpec.ofChange cellsPiecesWrong)

/-- 'gatehouselaw14.CellsPoison': WHATEVER THE INPUT: true; the input reads as it did. -/
def cellsPoisonSpec : ChangeSpec := { name := "cellsPoison", fn := fun _ => fun
  | [d1, d2, d3, d4] => { results := [.lit (.bool true)], args := [d1, d2, d3, d4] }
  | _ => none }
def cellsPoisonRow : OpenClaim := { program := "ytkbobgblohohcaa", sum := "a25771eb94f51e844723c4504103ea4ea392753ebdf42e28ab701f541d746d89", func := "gatehouse/gatehouselaw14.CellsPoison", spec := "cellsPoison", unfollowed := true, recurses := true, apart := false }
def CellsPoisonSaid : Prop := cellsPoisonRow.holds Try.pinned (OpenSpec.ofChange cellsPoisonSpec)

/-- ITS FALSE NEIGHBOUR: 'it returns false'. Refute it at one input. -/
def cellsPoisonWrong : ChangeSpec := { name := "cellsPoison", fn := fun _ => fun
  | [d1, d2, d3, d4] => { results := [.lit (.bool false)], args := [d1, d2, d3, d4] }
  | _ => none }
def CellsPoisonWrongFalsely : Prop := cellsPoisonRow.holds Try.pinned (OpenSpec.ofChange cellsPoisonWrong)

/-- 'gatehouselaw14.CellsOne': WHATEVER THE INPUT: true; the input reads as it did. -/
def cellsOneSpec : ChangeSpec := { name := "cellsOne", fn := fun _ => fun
  | [d1, d2, d3] => { results := [.lit (.bool true)], args := [d1, d2, d3] }
  | _ => none }
def cellsOneRow : OpenClaim := { program := "ytkbobgblohohcaa", sum := "a25771eb94f51e844723c4504103ea4ea392753ebdf42e28ab701f541d746d89", func := "gatehouse/gatehouselaw14.CellsOne", spec := "cellsOne", unfollowed := true, recurses := true, apart := false }
def CellsOneSaid : Prop := cellsOneRow.holds Try.pinned (OpenSpec.ofChange cellsOneSpec)

/-- ITS FALSE NEIGHBOUR: 'it returns false'. Refute it at one input. -/
def cellsOneWrong : ChangeSpec := { name := "cellsOne", fn := fun _ => fun
  | [d1, d2, d3] => { results := [.lit (.bool false)], args := [d1, d2, d3] }
  | _ => none }
def CellsOneWrongFalsely : Prop := cellsOneRow.holds Try.pinned (OpenSpec.ofChange cellsOneWrong)

/-- 'gatehouselaw14.CellsReplay': WHATEVER THE INPUT: true; the input reads as it did. -/
def cellsReplaySpec : ChangeSpec := { name := "cellsReplay", fn := fun _ => fun
  | [d1, d2] => { results := [.lit (.bool true)], args := [d1, d2] }
  | _ => none }
def cellsReplayRow : OpenClaim := { program := "ytkbobgblohohcaa", sum := "a25771eb94f51e844723c4504103ea4ea392753ebdf42e28ab701f541d746d89", func := "gatehouse/gatehouselaw14.CellsReplay", spec := "cellsReplay", unfollowed := true, recurses := true, apart := false }
def CellsReplaySaid : Prop := cellsReplayRow.holds Try.pinned (OpenSpec.ofChange cellsReplaySpec)

/-- ITS FALSE NEIGHBOUR: 'it returns false'. Refute it at one input. -/
def cellsReplayWrong : ChangeSpec := { name := "cellsReplay", fn := fun _ => fun
  | [d1, d2] => { results := [.lit (.bool false)], args := [d1, d2] }
  | _ => none }
def CellsReplayWrongFalsely : Prop := cellsReplayRow.holds Try.pinned (OpenSpec.ofChange cellsReplayWrong)

/-- 'gatehouselaw14.CellsScript': WHATEVER THE INPUT: true; the input reads as it did. -/
def cellsScriptSpec : ChangeSpec := { name := "cellsScript", fn := fun _ => fun
  | [d1, d2, d3] => { results := [.lit (.bool true)], args := [d1, d2, d3] }
  | _ => none }
def cellsScriptRow : OpenClaim := { program := "ytkbobgblohohcaa", sum := "a25771eb94f51e844723c4504103ea4ea392753ebdf42e28ab701f541d746d89", func := "gatehouse/gatehouselaw14.CellsScript", spec := "cellsScript", unfollowed := true, recurses := true, apart := false }
def CellsScriptSaid : Prop := cellsScriptRow.holds Try.pinned (OpenSpec.ofChange cellsScriptSpec)

/-- ITS FALSE NEIGHBOUR: 'it returns false'. Refute it at one input. -/
def cellsScriptWrong : ChangeSpec := { name := "cellsScript", fn := fun _ => fun
  | [d1, d2, d3] => { results := [.lit (.bool false)], args := [d1, d2, d3] }
  | _ => none }
def CellsScriptWrongFalsely : Prop := cellsScriptRow.holds Try.pinned (OpenSpec.ofChange cellsScriptWrong)

/-- 'gatehouselaw17.LockNew': WHATEVER THE INPUT: true; the input reads as it did. -/
def lockNewSpec : ChangeSpec := { name := "lockNew", fn := fun _ => fun
  | [d1, d2, d3] => { results := [.lit (.bool true)], args := [d1, d2, d3] }
  | _ => none }
def lockNewRow : OpenClaim := { program := "ytkbobgblohohcaa", sum := "a25771eb94f51e844723c4504103ea4ea392753ebdf42e28ab701f541d746d89", func := "gatehouse/gatehouselaw17.LockNew", spec := "lockNew", apart := false }
def LockNewSaid : Prop := lockNewRow.holds Try.pinned (OpenSpec.ofChange lockNewSpec)

/-- ITS FALSE NEIGHBOUR: 'it returns false'. Refute it at one input. -/
def lockNewWrong : ChangeSpec := { name := "lockNew", fn := fun _ => fun
  | [d1, d2, d3] => { results := [.lit (.bool false)], args := [d1, d2, d3] }
  | _ => none }
def LockNewWrongFalsely : Prop := lockNewRow.holds Try.pinned (OpenSpec.ofChange lockNewWrong)

/-- 'gatehouselaw17.LockNames': WHATEVER THE INPUT: true; the input reads as it did. -/
def lockNamesSpec : ChangeSpec := { name := "lockNames", fn := fun _ => fun
  | [] => { results := [.lit (.bool true)], args := [] }
  | _ => none }
def lockNamesRow : OpenClaim := { program := "ytkbobgblohohcaa", sum := "a25771eb94f51e844723c4504103ea4ea392753ebdf42e28ab701f541d746d89", func := "gatehouse/gatehouselaw17.LockNames", spec := "lockNames", apart := false }
def LockNamesSaid : Prop := lockNamesRow.holds Try.pinned (OpenSpec.ofChange lockNamesSpec)

/-- ITS FALSE NEIGHBOUR: 'it returns false'. Refute it at one input. -/
def lockNamesWrong : ChangeSpec := { name := "lockNames", fn := fun _ => fun
  | [] => { results := [.lit (.bool false)], args := [] }
  | _ => none }
def LockNamesWrongFalsely : Prop := lockNamesRow.holds Try.pinned (OpenSpec.ofChange lockNamesWrong)

/-- 'gatehouselaw17.LockTurns': WHATEVER THE INPUT: true; the input reads as it did. -/
def lockTurnsSpec : ChangeSpec := { name := "lockTurns", fn := fun _ => fun
  | [d1, d2, d3, d4] => { results := [.lit (.bool true)], args := [d1, d2, d3, d4] }
  | _ => none }
def lockTurnsRow : OpenClaim := { program := "ytkbobgblohohcaa", sum := "a25771eb94f51e844723c4504103ea4ea392753ebdf42e28ab701f541d746d89", func := "gatehouse/gatehouselaw17.LockTurns", spec := "lockTurns", unfollowed := true, recurses := true, apart := false }
def LockTurnsSaid : Prop := lockTurnsRow.holds Try.pinned (OpenSpec.ofChange lockTurnsSpec)

/-- ITS FALSE NEIGHBOUR: 'it returns false'. Refute it at one input. -/
def lockTurnsWrong : ChangeSpec := { name := "lockTurns", fn := fun _ => fun
  | [d1, d2, d3, d4] => { results := [.lit (.bool false)], args := [d1, d2, d3, d4] }
  | _ => none }
def LockTurnsWrongFalsely : Prop := lockTurnsRow.holds Try.pinned (OpenSpec.ofChange lockTurnsWrong)

/-- 'gatehouselaw17.LockSteps': WHATEVER THE INPUT: true; the input reads as it did. -/
def lockStepsSpec : ChangeSpec := { name := "lockSteps", fn := fun _ => fun
  | [d1, d2, d3] => { results := [.lit (.bool true)], args := [d1, d2, d3] }
  | _ => none }
def lockStepsRow : OpenClaim := { program := "ytkbobgblohohcaa", sum := "a25771eb94f51e844723c4504103ea4ea392753ebdf42e28ab701f541d746d89", func := "gatehouse/gatehouselaw17.LockSteps", spec := "lockSteps", unfollowed := true, recurses := true, apart := false }
def LockStepsSaid : Prop := lockStepsRow.holds Try.pinned (OpenSpec.ofChange lockStepsSpec)

/-- ITS FALSE NEIGHBOUR: 'it returns false'. Refute it at one input. -/
def lockStepsWrong : ChangeSpec := { name := "lockSteps", fn := fun _ => fun
  | [d1, d2, d3] => { results := [.lit (.bool false)], args := [d1, d2, d3] }
  | _ => none }
def LockStepsWrongFalsely : Prop := lockStepsRow.holds Try.pinned (OpenSpec.ofChange lockStepsWrong)

/-- 'gatehouselaw17.LockScript': WHATEVER THE INPUT: true; the input reads as it did. -/
def lockScriptSpec : ChangeSpec := { name := "lockScript", fn := fun _ => fun
  | [d1, d2, d3, d4] => { results := [.lit (.bool true)], args := [d1, d2, d3, d4] }
  | _ => none }
def lockScriptRow : OpenClaim := { program := "ytkbobgblohohcaa", sum := "a25771eb94f51e844723c4504103ea4ea392753ebdf42e28ab701f541d746d89", func := "gatehouse/gatehouselaw17.LockScript", spec := "lockScript", unfollowed := true, recurses := true, apart := false }
def LockScriptSaid : Prop := lockScriptRow.holds Try.pinned (OpenSpec.ofChange lockScriptSpec)

/-- ITS FALSE NEIGHBOUR: 'it returns false'. Refute it at one input. -/
def lockScriptWrong : ChangeSpec := { name := "lockScript", fn := fun _ => fun
  | [d1, d2, d3, d4] => { results := [.lit (.bool false)], args := [d1, d2, d3, d4] }
  | _ => none }
def LockScriptWrongFalsely : Prop := lockScriptRow.holds Try.pinned (OpenSpec.ofChange lockScriptWrong)

/-- 'gatehouselaw18.EpochAlone': WHATEVER THE INPUT: true; the input reads as it did. -/
def epochAloneSpec : ChangeSpec := { name := "epochAlone", fn := fun _ => fun
  | [d1, d2, d3] => { results := [.lit (.bool true)], args := [d1, d2, d3] }
  | _ => none }
def epochAloneRow : OpenClaim := { program := "ytkbobgblohohcaa", sum := "a25771eb94f51e844723c4504103ea4ea392753ebdf42e28ab701f541d746d89", func := "gatehouse/gatehouselaw18.EpochAlone", spec := "epochAlone", unfollowed := true, recurses := true, apart := false }
def EpochAloneSaid : Prop := epochAloneRow.holds Try.pinned (OpenSpec.ofChange epochAloneSpec)

/-- ITS FALSE NEIGHBOUR: 'it returns false'. Refute it at one input. -/
def epochAloneWrong : ChangeSpec := { name := "epochAlone", fn := fun _ => fun
  | [d1, d2, d3] => { results := [.lit (.bool false)], args := [d1, d2, d3] }
  | _ => none }
def EpochAloneWrongFalsely : Prop := epochAloneRow.holds Try.pinned (OpenSpec.ofChange epochAloneWrong)

/-- 'gatehouselaw18.EpochWaits': WHATEVER THE INPUT: true; the input reads as it did. -/
def epochWaitsSpec : ChangeSpec := { name := "epochWaits", fn := fun _ => fun
  | [d1, d2, d3, d4] => { results := [.lit (.bool true)], args := [d1, d2, d3, d4] }
  | _ => none }
def epochWaitsRow : OpenClaim := { program := "ytkbobgblohohcaa", sum := "a25771eb94f51e844723c4504103ea4ea392753ebdf42e28ab701f541d746d89", func := "gatehouse/gatehouselaw18.EpochWaits", spec := "epochWaits", unfollowed := true, recurses := true, apart := false }
def EpochWaitsSaid : Prop := epochWaitsRow.holds Try.pinned (OpenSpec.ofChange epochWaitsSpec)

/-- ITS FALSE NEIGHBOUR: 'it returns false'. Refute it at one input. -/
def epochWaitsWrong : ChangeSpec := { name := "epochWaits", fn := fun _ => fun
  | [d1, d2, d3, d4] => { results := [.lit (.bool false)], args := [d1, d2, d3, d4] }
  | _ => none }
def EpochWaitsWrongFalsely : Prop := epochWaitsRow.holds Try.pinned (OpenSpec.ofChange epochWaitsWrong)

/-- 'gatehouselaw18.EpochExact': WHATEVER THE INPUT: true; the input reads as it did. -/
def epochExactSpec : ChangeSpec := { name := "epochExact", fn := fun _ => fun
  | [d1, d2, d3] => { results := [.lit (.bool true)], args := [d1, d2, d3] }
  | _ => none }
def epochExactRow : OpenClaim := { program := "ytkbobgblohohcaa", sum := "a25771eb94f51e844723c4504103ea4ea392753ebdf42e28ab701f541d746d89", func := "gatehouse/gatehouselaw18.EpochExact", spec := "epochExact", unfollowed := true, recurses := true, apart := false }
def EpochExactSaid : Prop := epochExactRow.holds Try.pinned (OpenSpec.ofChange epochExactSpec)

/-- ITS FALSE NEIGHBOUR: 'it returns false'. Refute it at one input. -/
def epochExactWrong : ChangeSpec := { name := "epochExact", fn := fun _ => fun
  | [d1, d2, d3] => { results := [.lit (.bool false)], args := [d1, d2, d3] }
  | _ => none }
def EpochExactWrongFalsely : Prop := epochExactRow.holds Try.pinned (OpenSpec.ofChange epochExactWrong)

/- THE SECOND FORM. 'bulk': how many values and letters a reading holds, each counted each time it is reached (what is shared counts as often as it is met; a slice's spare places count too). A statement '..UptoSaid' is the law's where the arguments, and the package variables that the reading takes, are together of bulk at most 1048576: NARROWER than '..Said'. Prove '..Said' where nothing that the law and all that it calls make is longer than what came in: it says more and counts as full. Else prove '..UptoSaid'. A law counts once. -/
mutual
def uptoBulk {H : Type} : DataW H → Nat
  | .lit (.string bytes) => bytes.length + 1
  | .lit _ => 1
  | .nil => 1
  | .ptr d => uptoBulk d + 1
  | .slice elems spare => uptoBulkAll elems + uptoBulkAll spare + 1
  | .agg parts => uptoBulkAll parts + 1
  | .iface _ d => uptoBulk d + 1
  | .map entries => uptoBulkEntries entries + 1
  | .held _ => 1
def uptoBulkAll {H : Type} : List (DataW H) → Nat
  | [] => 0
  | d :: r => uptoBulk d + uptoBulkAll r
def uptoBulkEntries {H : Type} : List (Lit × DataW H) → Nat
  | [] => 0
  | x :: r => uptoBulkEntry x + uptoBulkEntries r
def uptoBulkEntry {H : Type} : Lit × DataW H → Nat
  | (.string bytes, d) => bytes.length + uptoBulk d + 1
  | (_, d) => uptoBulk d + 1
 end
def uptoSmall : (H : Type) → List (DataW H) → Bool := fun _ ds => decide (uptoBulkAll ds ≤ 1048576)
def OpenSpec.upto (s : _root_.Go.ChangeSpec) : _root_.Go.OpenSpec := { _root_.Go.OpenSpec.ofChange s with cond := some uptoSmall }

/-- 'gatehouselaw14.CellsNames', WHERE WHAT IT READS IS OF BULK AT MOST 1048576: true; the input reads as it did. -/
def cellsNamesUptoRow : OpenClaim := { program := "ytkbobgblohohcaa", sum := "a25771eb94f51e844723c4504103ea4ea392753ebdf42e28ab701f541d746d89", func := "gatehouse/gatehouselaw14.CellsNames", spec := "cellsNames", apart := false, narrowed := true }
def CellsNamesUptoSaid : Prop := cellsNamesUptoRow.holds Try.pinned (OpenSpec.upto cellsNamesSpec)

/-- 'gatehouselaw14.CellsSum', WHERE WHAT IT READS IS OF BULK AT MOST 1048576: true; the input reads as it did. -/
def cellsSumUptoRow : OpenClaim := { program := "ytkbobgblohohcaa", sum := "a25771eb94f51e844723c4504103ea4ea392753ebdf42e28ab701f541d746d89", func := "gatehouse/gatehouselaw14.CellsSum", spec := "cellsSum", apart := false, narrowed := true }
def CellsSumUptoSaid : Prop := cellsSumUptoRow.holds Try.pinned (OpenSpec.upto cellsSumSpec)

/-- 'gatehouselaw14.CellsWinner', WHERE WHAT IT READS IS OF BULK AT MOST 1048576: true; the input reads as it did. -/
def cellsWinnerUptoRow : OpenClaim := { program := "ytkbobgblohohcaa", sum := "a25771eb94f51e844723c4504103ea4ea392753ebdf42e28ab701f541d746d89", func := "gatehouse/gatehouselaw14.CellsWinner", spec := "cellsWinner", unfollowed := true, recurses := true, apart := false, narrowed := true }
def CellsWinnerUptoSaid : Prop := cellsWinnerUptoRow.holds Try.pinned (OpenSpec.upto cellsWinnerSpec)

/-- 'gatehouselaw14.CellsPieces', WHERE WHAT IT READS IS OF BULK AT MOST 1048576: true; the input reads as it did. -/
def cellsPiecesUptoRow : OpenClaim := { program := "ytkbobgblohohcaa", sum := "a25771eb94f51e844723c4504103ea4ea392753ebdf42e28ab701f541d746d89", func := "gatehouse/gatehouselaw14.CellsPieces", spec := "cellsPieces", unfollowed := true, recurses := true, apart := false, narrowed := true }
def CellsPiecesUptoSaid : Prop := cellsPiecesUptoRow.holds Try.pinned (OpenSpec.upto cellsPiecesSpec)

/-- 'gatehouselaw14.CellsPoison', WHERE WHAT IT READS IS OF BULK AT MOST 1048576: true; the input reads as it did. -/
def cellsPoisonUptoRow : OpenClaim := { program := "ytkbobgblohohcaa", sum := "a25771eb94f51e844723c4504103ea4ea392753ebdf42e28ab701f541d746d89", func := "gatehouse/gatehouselaw14.CellsPoison", spec := "cellsPoison", unfollowed := true, recurses := true, apart := false, narrowed := true }
def CellsPoisonUptoSaid : Prop := cellsPoisonUptoRow.holds Try.pinned (OpenSpec.upto cellsPoisonSpec)

/-- 'gatehouselaw14.CellsOne', WHERE WHAT IT READS IS OF BULK AT MOST 1048576: true; the input reads as it did. -/
def cellsOneUptoRow : OpenClaim := { program := "ytkbobgblohohcaa", sum := "a25771eb94f51e844723c4504103ea4ea392753ebdf42e28ab701f541d746d89", func := "gatehouse/gatehouselaw14.CellsOne", spec := "cellsOne", unfollowed := true, recurses := true, apart := false, narrowed := true }
def CellsOneUptoSaid : Prop := cellsOneUptoRow.holds Try.pinned (OpenSpec.upto cellsOneSpec)

/-- 'gatehouselaw14.CellsReplay', WHERE WHAT IT READS IS OF BULK AT MOST 1048576: true; the input reads as it did. -/
def cellsReplayUptoRow : OpenClaim := { program := "ytkbobgblohohcaa", sum := "a25771eb94f51e844723c4504103ea4ea392753ebdf42e28ab701f541d746d89", func := "gatehouse/gatehouselaw14.CellsReplay", spec := "cellsReplay", unfollowed := true, recurses := true, apart := false, narrowed := true }
def CellsReplayUptoSaid : Prop := cellsReplayUptoRow.holds Try.pinned (OpenSpec.upto cellsReplaySpec)

/-- 'gatehouselaw14.CellsScript', WHERE WHAT IT READS IS OF BULK AT MOST 1048576: true; the input reads as it did. -/
def cellsScriptUptoRow : OpenClaim := { program := "ytkbobgblohohcaa", sum := "a25771eb94f51e844723c4504103ea4ea392753ebdf42e28ab701f541d746d89", func := "gatehouse/gatehouselaw14.CellsScript", spec := "cellsScript", unfollowed := true, recurses := true, apart := false, narrowed := true }
def CellsScriptUptoSaid : Prop := cellsScriptUptoRow.holds Try.pinned (OpenSpec.upto cellsScriptSpec)

/-- 'gatehouselaw17.LockNew', WHERE WHAT IT READS IS OF BULK AT MOST 1048576: true; the input reads as it did. -/
def lockNewUptoRow : OpenClaim := { program := "ytkbobgblohohcaa", sum := "a25771eb94f51e844723c4504103ea4ea392753ebdf42e28ab701f541d746d89", func := "gatehouse/gatehouselaw17.LockNew", spec := "lockNew", apart := false, narrowed := true }
def LockNewUptoSaid : Prop := lockNewUptoRow.holds Try.pinned (OpenSpec.upto lockNewSpec)

/-- 'gatehouselaw17.LockNames', WHERE WHAT IT READS IS OF BULK AT MOST 1048576: true; the input reads as it did. -/
def lockNamesUptoRow : OpenClaim := { program := "ytkbobgblohohcaa", sum := "a25771eb94f51e844723c4504103ea4ea392753ebdf42e28ab701f541d746d89", func := "gatehouse/gatehouselaw17.LockNames", spec := "lockNames", apart := false, narrowed := true }
def LockNamesUptoSaid : Prop := lockNamesUptoRow.holds Try.pinned (OpenSpec.upto lockNamesSpec)

/-- 'gatehouselaw17.LockTurns', WHERE WHAT IT READS IS OF BULK AT MOST 1048576: true; the input reads as it did. -/
def lockTurnsUptoRow : OpenClaim := { program := "ytkbobgblohohcaa", sum := "a25771eb94f51e844723c4504103ea4ea392753ebdf42e28ab701f541d746d89", func := "gatehouse/gatehouselaw17.LockTurns", spec := "lockTurns", unfollowed := true, recurses := true, apart := false, narrowed := true }
def LockTurnsUptoSaid : Prop := lockTurnsUptoRow.holds Try.pinned (OpenSpec.upto lockTurnsSpec)

/-- 'gatehouselaw17.LockSteps', WHERE WHAT IT READS IS OF BULK AT MOST 1048576: true; the input reads as it did. -/
def lockStepsUptoRow : OpenClaim := { program := "ytkbobgblohohcaa", sum := "a25771eb94f51e844723c4504103ea4ea392753ebdf42e28ab701f541d746d89", func := "gatehouse/gatehouselaw17.LockSteps", spec := "lockSteps", unfollowed := true, recurses := true, apart := false, narrowed := true }
def LockStepsUptoSaid : Prop := lockStepsUptoRow.holds Try.pinned (OpenSpec.upto lockStepsSpec)

/-- 'gatehouselaw17.LockScript', WHERE WHAT IT READS IS OF BULK AT MOST 1048576: true; the input reads as it did. -/
def lockScriptUptoRow : OpenClaim := { program := "ytkbobgblohohcaa", sum := "a25771eb94f51e844723c4504103ea4ea392753ebdf42e28ab701f541d746d89", func := "gatehouse/gatehouselaw17.LockScript", spec := "lockScript", unfollowed := true, recurses := true, apart := false, narrowed := true }
def LockScriptUptoSaid : Prop := lockScriptUptoRow.holds Try.pinned (OpenSpec.upto lockScriptSpec)

/-- 'gatehouselaw18.EpochAlone', WHERE WHAT IT READS IS OF BULK AT MOST 1048576: true; the input reads as it did. -/
def epochAloneUptoRow : OpenClaim := { program := "ytkbobgblohohcaa", sum := "a25771eb94f51e844723c4504103ea4ea392753ebdf42e28ab701f541d746d89", func := "gatehouse/gatehouselaw18.EpochAlone", spec := "epochAlone", unfollowed := true, recurses := true, apart := false, narrowed := true }
def EpochAloneUptoSaid : Prop := epochAloneUptoRow.holds Try.pinned (OpenSpec.upto epochAloneSpec)

/-- 'gatehouselaw18.EpochWaits', WHERE WHAT IT READS IS OF BULK AT MOST 1048576: true; the input reads as it did. -/
def epochWaitsUptoRow : OpenClaim := { program := "ytkbobgblohohcaa", sum := "a25771eb94f51e844723c4504103ea4ea392753ebdf42e28ab701f541d746d89", func := "gatehouse/gatehouselaw18.EpochWaits", spec := "epochWaits", unfollowed := true, recurses := true, apart := false, narrowed := true }
def EpochWaitsUptoSaid : Prop := epochWaitsUptoRow.holds Try.pinned (OpenSpec.upto epochWaitsSpec)

/-- 'gatehouselaw18.EpochExact', WHERE WHAT IT READS IS OF BULK AT MOST 1048576: true; the input reads as it did. -/
def epochExactUptoRow : OpenClaim := { program := "ytkbobgblohohcaa", sum := "a25771eb94f51e844723c4504103ea4ea392753ebdf42e28ab701f541d746d89", func := "gatehouse/gatehouselaw18.EpochExact", spec := "epochExact", unfollowed := true, recurses := true, apart := false, narrowed := true }
def EpochExactUptoSaid : Prop := epochExactUptoRow.holds Try.pinned (OpenSpec.upto epochExactSpec)

end Rows
end Go.Proofs.Ytkbobgblohohcaa

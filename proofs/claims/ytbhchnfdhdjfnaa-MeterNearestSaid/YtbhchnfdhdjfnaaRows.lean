/-
  No cell of these rows narrows 'for every input' (looked for: loops, veiled, ifaces, maps, wideKeys, modest, calm, conditions, laid).
  DERIVED. THE GIVEN ROWS OF THIS SEAT. 13 by the template 'for every input the law returns true; each argument reads behind the call as it read before'; 0 by the template 'total and deterministic' (their statements: YtbhchnfdhdjfnaaTotals.lean).
  GIVEN WITH THE SEED: the statements are not yours to turn. If you find one false, say at which input.
  Laid BY PROGRAM, IN A SANDBOX (cutbox-rows.mjs): the forced cells as the released guide's own fill.sh prints them over the translation 35fd7f151b674157… (all of the seat's roots in one cut). By AI agents, Wed Nov 11 2026. No macro, syntax, notation, axiom, sorry.
-/
import Derived.Test.YtbhchnfdhdjfnaaChecked
import GoSem.Claim
import GoSem.ClaimJoined
import GoSem.ClaimMapViews
import Derived.JoinedTies
import Derived.KernelRfl
namespace Go.Proofs.Ytbhchnfdhdjfnaa
/- THE CELL 'sum', in the pinned program and in every row, IS THE sha256 OF THE DUMP (.gsa) THAT YtbhchnfdhdjfnaaProg.lean LOADS. Nothing in Lean hashes anything: it is a label: what it is worth is what the hold of that sum in a sandbox is worth. -/
noncomputable def Try.pinned : Pinned := { name := "ytbhchnfdhdjfnaa", sum := "35fd7f151b674157c3dd81ea76e1b07b119b66abd8fa7d40cd89205b8504e857", checked := Try.checked }
namespace Rows
def none {H : Type} : Left H := { results := [], args := [] }

/-- 'gatehouselaw20.MeterLean': WHATEVER THE INPUT: true; the input reads as it did. -/
def meterLeanSpec : ChangeSpec := { name := "meterLean", fn := fun _ => fun
  | [d1, d2] => { results := [.lit (.bool true)], args := [d1, d2] }
  | _ => none }
def meterLeanRow : OpenClaim := { program := "ytbhchnfdhdjfnaa", sum := "35fd7f151b674157c3dd81ea76e1b07b119b66abd8fa7d40cd89205b8504e857", func := "gatehouse/gatehouselaw20.MeterLean", spec := "meterLean", apart := false }
def MeterLeanSaid : Prop := meterLeanRow.holds Try.pinned (OpenSpec.ofChange meterLeanSpec)

/-- ITS FALSE NEIGHBOUR: 'it returns false'. Refute it at one input. -/
def meterLeanWrong : ChangeSpec := { name := "meterLean", fn := fun _ => fun
  | [d1, d2] => { results := [.lit (.bool false)], args := [d1, d2] }
  | _ => none }
def MeterLeanWrongFalsely : Prop := meterLeanRow.holds Try.pinned (OpenSpec.ofChange meterLeanWrong)

/-- 'gatehouselaw20.MeterShort': WHATEVER THE INPUT: true; the input reads as it did. -/
def meterShortSpec : ChangeSpec := { name := "meterShort", fn := fun _ => fun
  | [d] => { results := [.lit (.bool true)], args := [d] }
  | _ => none }
def meterShortRow : OpenClaim := { program := "ytbhchnfdhdjfnaa", sum := "35fd7f151b674157c3dd81ea76e1b07b119b66abd8fa7d40cd89205b8504e857", func := "gatehouse/gatehouselaw20.MeterShort", spec := "meterShort", apart := false }
def MeterShortSaid : Prop := meterShortRow.holds Try.pinned (OpenSpec.ofChange meterShortSpec)

/-- ITS FALSE NEIGHBOUR: 'it returns false'. Refute it at one input. -/
def meterShortWrong : ChangeSpec := { name := "meterShort", fn := fun _ => fun
  | [d] => { results := [.lit (.bool false)], args := [d] }
  | _ => none }
def MeterShortWrongFalsely : Prop := meterShortRow.holds Try.pinned (OpenSpec.ofChange meterShortWrong)

/-- 'gatehouselaw20.MeterNearest': WHATEVER THE INPUT: true; the input reads as it did. -/
def meterNearestSpec : ChangeSpec := { name := "meterNearest", fn := fun _ => fun
  | [d1, d2] => { results := [.lit (.bool true)], args := [d1, d2] }
  | _ => none }
def meterNearestRow : OpenClaim := { program := "ytbhchnfdhdjfnaa", sum := "35fd7f151b674157c3dd81ea76e1b07b119b66abd8fa7d40cd89205b8504e857", func := "gatehouse/gatehouselaw20.MeterNearest", spec := "meterNearest", apart := false }
def MeterNearestSaid : Prop := meterNearestRow.holds Try.pinned (OpenSpec.ofChange meterNearestSpec)

/-- ITS FALSE NEIGHBOUR: 'it returns false'. Refute it at one input. -/
def meterNearestWrong : ChangeSpec := { name := "meterNearest", fn := fun _ => fun
  | [d1, d2] => { results := [.lit (.bool false)], args := [d1, d2] }
  | _ => none }
def MeterNearestWrongFalsely : Prop := meterNearestRow.holds Try.pinned (OpenSpec.ofChange meterNearestWrong)

/-- 'gatehouselaw20.MeterCompass': WHATEVER THE INPUT: true; the input reads as it did. -/
def meterCompassSpec : ChangeSpec := { name := "meterCompass", fn := fun _ => fun
  | [d] => { results := [.lit (.bool true)], args := [d] }
  | _ => none }
def meterCompassRow : OpenClaim := { program := "ytbhchnfdhdjfnaa", sum := "35fd7f151b674157c3dd81ea76e1b07b119b66abd8fa7d40cd89205b8504e857", func := "gatehouse/gatehouselaw20.MeterCompass", spec := "meterCompass", apart := false }
def MeterCompassSaid : Prop := meterCompassRow.holds Try.pinned (OpenSpec.ofChange meterCompassSpec)

/-- ITS FALSE NEIGHBOUR: 'it returns false'. Refute it at one input. -/
def meterCompassWrong : ChangeSpec := { name := "meterCompass", fn := fun _ => fun
  | [d] => { results := [.lit (.bool false)], args := [d] }
  | _ => none }
def MeterCompassWrongFalsely : Prop := meterCompassRow.holds Try.pinned (OpenSpec.ofChange meterCompassWrong)

/-- 'gatehouselaw20.MeterTurn': WHATEVER THE INPUT: true; the input reads as it did. -/
def meterTurnSpec : ChangeSpec := { name := "meterTurn", fn := fun _ => fun
  | [d1, d2] => { results := [.lit (.bool true)], args := [d1, d2] }
  | _ => none }
def meterTurnRow : OpenClaim := { program := "ytbhchnfdhdjfnaa", sum := "35fd7f151b674157c3dd81ea76e1b07b119b66abd8fa7d40cd89205b8504e857", func := "gatehouse/gatehouselaw20.MeterTurn", spec := "meterTurn", apart := false }
def MeterTurnSaid : Prop := meterTurnRow.holds Try.pinned (OpenSpec.ofChange meterTurnSpec)

/-- ITS FALSE NEIGHBOUR: 'it returns false'. Refute it at one input. -/
def meterTurnWrong : ChangeSpec := { name := "meterTurn", fn := fun _ => fun
  | [d1, d2] => { results := [.lit (.bool false)], args := [d1, d2] }
  | _ => none }
def MeterTurnWrongFalsely : Prop := meterTurnRow.holds Try.pinned (OpenSpec.ofChange meterTurnWrong)

/-- 'gatehouselaw20.MeterMean': WHATEVER THE INPUT: true; the input reads as it did. -/
def meterMeanSpec : ChangeSpec := { name := "meterMean", fn := fun _ => fun
  | [d] => { results := [.lit (.bool true)], args := [d] }
  | _ => none }
def meterMeanRow : OpenClaim := { program := "ytbhchnfdhdjfnaa", sum := "35fd7f151b674157c3dd81ea76e1b07b119b66abd8fa7d40cd89205b8504e857", func := "gatehouse/gatehouselaw20.MeterMean", spec := "meterMean", apart := false }
def MeterMeanSaid : Prop := meterMeanRow.holds Try.pinned (OpenSpec.ofChange meterMeanSpec)

/-- ITS FALSE NEIGHBOUR: 'it returns false'. Refute it at one input. -/
def meterMeanWrong : ChangeSpec := { name := "meterMean", fn := fun _ => fun
  | [d] => { results := [.lit (.bool false)], args := [d] }
  | _ => none }
def MeterMeanWrongFalsely : Prop := meterMeanRow.holds Try.pinned (OpenSpec.ofChange meterMeanWrong)

/-- 'gatehouselaw20.MeterAlike': WHATEVER THE INPUT: true; the input reads as it did. -/
def meterAlikeSpec : ChangeSpec := { name := "meterAlike", fn := fun _ => fun
  | [d1, d2] => { results := [.lit (.bool true)], args := [d1, d2] }
  | _ => none }
def meterAlikeRow : OpenClaim := { program := "ytbhchnfdhdjfnaa", sum := "35fd7f151b674157c3dd81ea76e1b07b119b66abd8fa7d40cd89205b8504e857", func := "gatehouse/gatehouselaw20.MeterAlike", spec := "meterAlike", apart := false }
def MeterAlikeSaid : Prop := meterAlikeRow.holds Try.pinned (OpenSpec.ofChange meterAlikeSpec)

/-- ITS FALSE NEIGHBOUR: 'it returns false'. Refute it at one input. -/
def meterAlikeWrong : ChangeSpec := { name := "meterAlike", fn := fun _ => fun
  | [d1, d2] => { results := [.lit (.bool false)], args := [d1, d2] }
  | _ => none }
def MeterAlikeWrongFalsely : Prop := meterAlikeRow.holds Try.pinned (OpenSpec.ofChange meterAlikeWrong)

/-- 'gatehouselaw20.MeterTwo': WHATEVER THE INPUT: true; the input reads as it did. -/
def meterTwoSpec : ChangeSpec := { name := "meterTwo", fn := fun _ => fun
  | [d1, d2] => { results := [.lit (.bool true)], args := [d1, d2] }
  | _ => none }
def meterTwoRow : OpenClaim := { program := "ytbhchnfdhdjfnaa", sum := "35fd7f151b674157c3dd81ea76e1b07b119b66abd8fa7d40cd89205b8504e857", func := "gatehouse/gatehouselaw20.MeterTwo", spec := "meterTwo", apart := false }
def MeterTwoSaid : Prop := meterTwoRow.holds Try.pinned (OpenSpec.ofChange meterTwoSpec)

/-- ITS FALSE NEIGHBOUR: 'it returns false'. Refute it at one input. -/
def meterTwoWrong : ChangeSpec := { name := "meterTwo", fn := fun _ => fun
  | [d1, d2] => { results := [.lit (.bool false)], args := [d1, d2] }
  | _ => none }
def MeterTwoWrongFalsely : Prop := meterTwoRow.holds Try.pinned (OpenSpec.ofChange meterTwoWrong)

/-- 'gatehouselaw20.MeterNames': WHATEVER THE INPUT: true; the input reads as it did. -/
def meterNamesSpec : ChangeSpec := { name := "meterNames", fn := fun _ => fun
  | [] => { results := [.lit (.bool true)], args := [] }
  | _ => none }
def meterNamesRow : OpenClaim := { program := "ytbhchnfdhdjfnaa", sum := "35fd7f151b674157c3dd81ea76e1b07b119b66abd8fa7d40cd89205b8504e857", func := "gatehouse/gatehouselaw20.MeterNames", spec := "meterNames", apart := false }
def MeterNamesSaid : Prop := meterNamesRow.holds Try.pinned (OpenSpec.ofChange meterNamesSpec)

/-- ITS FALSE NEIGHBOUR: 'it returns false'. Refute it at one input. -/
def meterNamesWrong : ChangeSpec := { name := "meterNames", fn := fun _ => fun
  | [] => { results := [.lit (.bool false)], args := [] }
  | _ => none }
def MeterNamesWrongFalsely : Prop := meterNamesRow.holds Try.pinned (OpenSpec.ofChange meterNamesWrong)

/-- 'gatehouselaw20.MeterScript': WHATEVER THE INPUT: true; the input reads as it did. -/
def meterScriptSpec : ChangeSpec := { name := "meterScript", fn := fun _ => fun
  | [d1, d2, d3] => { results := [.lit (.bool true)], args := [d1, d2, d3] }
  | _ => none }
def meterScriptRow : OpenClaim := { program := "ytbhchnfdhdjfnaa", sum := "35fd7f151b674157c3dd81ea76e1b07b119b66abd8fa7d40cd89205b8504e857", func := "gatehouse/gatehouselaw20.MeterScript", spec := "meterScript", apart := false }
def MeterScriptSaid : Prop := meterScriptRow.holds Try.pinned (OpenSpec.ofChange meterScriptSpec)

/-- ITS FALSE NEIGHBOUR: 'it returns false'. Refute it at one input. -/
def meterScriptWrong : ChangeSpec := { name := "meterScript", fn := fun _ => fun
  | [d1, d2, d3] => { results := [.lit (.bool false)], args := [d1, d2, d3] }
  | _ => none }
def MeterScriptWrongFalsely : Prop := meterScriptRow.holds Try.pinned (OpenSpec.ofChange meterScriptWrong)

/-- 'gatehouselaw20.MeterHalf': WHATEVER THE INPUT: true; the input reads as it did. -/
def meterHalfSpec : ChangeSpec := { name := "meterHalf", fn := fun _ => fun
  | [d1, d2, d3] => { results := [.lit (.bool true)], args := [d1, d2, d3] }
  | _ => none }
def meterHalfRow : OpenClaim := { program := "ytbhchnfdhdjfnaa", sum := "35fd7f151b674157c3dd81ea76e1b07b119b66abd8fa7d40cd89205b8504e857", func := "gatehouse/gatehouselaw20.MeterHalf", spec := "meterHalf", apart := false }
def MeterHalfSaid : Prop := meterHalfRow.holds Try.pinned (OpenSpec.ofChange meterHalfSpec)

/-- ITS FALSE NEIGHBOUR: 'it returns false'. Refute it at one input. -/
def meterHalfWrong : ChangeSpec := { name := "meterHalf", fn := fun _ => fun
  | [d1, d2, d3] => { results := [.lit (.bool false)], args := [d1, d2, d3] }
  | _ => none }
def MeterHalfWrongFalsely : Prop := meterHalfRow.holds Try.pinned (OpenSpec.ofChange meterHalfWrong)

/-- 'gatehouselaw20.MeterFirst': WHATEVER THE INPUT: true; the input reads as it did. -/
def meterFirstSpec : ChangeSpec := { name := "meterFirst", fn := fun _ => fun
  | [d1, d2, d3] => { results := [.lit (.bool true)], args := [d1, d2, d3] }
  | _ => none }
def meterFirstRow : OpenClaim := { program := "ytbhchnfdhdjfnaa", sum := "35fd7f151b674157c3dd81ea76e1b07b119b66abd8fa7d40cd89205b8504e857", func := "gatehouse/gatehouselaw20.MeterFirst", spec := "meterFirst", apart := false }
def MeterFirstSaid : Prop := meterFirstRow.holds Try.pinned (OpenSpec.ofChange meterFirstSpec)

/-- ITS FALSE NEIGHBOUR: 'it returns false'. Refute it at one input. -/
def meterFirstWrong : ChangeSpec := { name := "meterFirst", fn := fun _ => fun
  | [d1, d2, d3] => { results := [.lit (.bool false)], args := [d1, d2, d3] }
  | _ => none }
def MeterFirstWrongFalsely : Prop := meterFirstRow.holds Try.pinned (OpenSpec.ofChange meterFirstWrong)

/-- 'gatehouselaw20.MeterSum': WHATEVER THE INPUT: true; the input reads as it did. -/
def meterSumSpec : ChangeSpec := { name := "meterSum", fn := fun _ => fun
  | [d1, d2, d3] => { results := [.lit (.bool true)], args := [d1, d2, d3] }
  | _ => none }
def meterSumRow : OpenClaim := { program := "ytbhchnfdhdjfnaa", sum := "35fd7f151b674157c3dd81ea76e1b07b119b66abd8fa7d40cd89205b8504e857", func := "gatehouse/gatehouselaw20.MeterSum", spec := "meterSum", apart := false }
def MeterSumSaid : Prop := meterSumRow.holds Try.pinned (OpenSpec.ofChange meterSumSpec)

/-- ITS FALSE NEIGHBOUR: 'it returns false'. Refute it at one input. -/
def meterSumWrong : ChangeSpec := { name := "meterSum", fn := fun _ => fun
  | [d1, d2, d3] => { results := [.lit (.bool false)], args := [d1, d2, d3] }
  | _ => none }
def MeterSumWrongFalsely : Prop := meterSumRow.holds Try.pinned (OpenSpec.ofChange meterSumWrong)

/- THE SECOND FORM. 'bulk': how many values and letters a reading holds, each counted each time it is reached (what is shared counts as often as it is met; a slice's spare places count too). A statement '..UptoSaid' is the law's where the arguments, and the package variables that the reading takes, are together of bulk at most 1048576: NARROWER than '..Said'. Prove '..Said' where nothing that the law and all that it calls make is longer than what came in: it says more and counts as full. Else prove '..UptoSaid'. A law counts once. -/
mutual
def uptoBulk {H : Type} : DataW H → Nat
  | .lit (.string bytes) => bytes.length + 1
  | .lit _ => 1
  | .nil => 1
  | .ptr d => uptoBulk d + 1
  | .slice elems spare => uptoBulkAll elems + uptoBulkAll spare + 1
  | .agg parts => uptoBulkAll parts + 1
  | .iface _ d => uptoBulk d + 1
  | .map entries => uptoBulkEntries entries + 1
  | .held _ => 1
def uptoBulkAll {H : Type} : List (DataW H) → Nat
  | [] => 0
  | d :: r => uptoBulk d + uptoBulkAll r
def uptoBulkEntries {H : Type} : List (Lit × DataW H) → Nat
  | [] => 0
  | x :: r => uptoBulkEntry x + uptoBulkEntries r
def uptoBulkEntry {H : Type} : Lit × DataW H → Nat
  | (.string bytes, d) => bytes.length + uptoBulk d + 1
  | (_, d) => uptoBulk d + 1
 end
def uptoSmall : (H : Type) → List (DataW H) → Bool := fun _ ds => decide (uptoBulkAll ds ≤ 1048576)
def OpenSpec.upto (s : _root_.Go.ChangeSpec) : _root_.Go.OpenSpec := { _root_.Go.OpenSpec.ofChange s with cond := some uptoSmall }

/-- 'gatehouselaw20.MeterLean', WHERE WHAT IT READS IS OF BULK AT MOST 1048576: true; the input reads as it did. -/
def meterLeanUptoRow : OpenClaim := { program := "ytbhchnfdhdjfnaa", sum := "35fd7f151b674157c3dd81ea76e1b07b119b66abd8fa7d40cd89205b8504e857", func := "gatehouse/gatehouselaw20.MeterLean", spec := "meterLean", apart := false, narrowed := true }
def MeterLeanUptoSaid : Prop := meterLeanUptoRow.holds Try.pinned (OpenSpec.upto meterLeanSpec)

/-- 'gatehouselaw20.MeterShort', WHERE WHAT IT READS IS OF BULK AT MOST 1048576: true; the input reads as it did. -/
def meterShortUptoRow : OpenClaim := { program := "ytbhchnfdhdjfnaa", sum := "35fd7f151b674157c3dd81ea76e1b07b119b66abd8fa7d40cd89205b8504e857", func := "gatehouse/gatehouselaw20.MeterShort", spec := "meterShort", apart := false, narrowed := true }
def MeterShortUptoSaid : Prop := meterShortUptoRow.holds Try.pinned (OpenSpec.upto meterShortSpec)

/-- 'gatehouselaw20.MeterNearest', WHERE WHAT IT READS IS OF BULK AT MOST 1048576: true; the input reads as it did. -/
def meterNearestUptoRow : OpenClaim := { program := "ytbhchnfdhdjfnaa", sum := "35fd7f151b674157c3dd81ea76e1b07b119b66abd8fa7d40cd89205b8504e857", func := "gatehouse/gatehouselaw20.MeterNearest", spec := "meterNearest", apart := false, narrowed := true }
def MeterNearestUptoSaid : Prop := meterNearestUptoRow.holds Try.pinned (OpenSpec.upto meterNearestSpec)

/-- 'gatehouselaw20.MeterCompass', WHERE WHAT IT READS IS OF BULK AT MOST 1048576: true; the input reads as it did. -/
def meterCompassUptoRow : OpenClaim := { program := "ytbhchnfdhdjfnaa", sum := "35fd7f151b674157c3dd81ea76e1b07b119b66abd8fa7d40cd89205b8504e857", func := "gatehouse/gatehouselaw20.MeterCompass", spec := "meterCompass", apart := false, narrowed := true }
def MeterCompassUptoSaid : Prop := meterCompassUptoRow.holds Try.pinned (OpenSpec.upto meterCompassSpec)

/-- 'gatehouselaw20.MeterTurn', WHERE WHAT IT READS IS OF BULK AT MOST 1048576: true; the input reads as it did. -/
def meterTurnUptoRow : OpenClaim := { program := "ytbhchnfdhdjfnaa", sum := "35fd7f151b674157c3dd81ea76e1b07b119b66abd8fa7d40cd89205b8504e857", func := "gatehouse/gatehouselaw20.MeterTurn", spec := "meterTurn", apart := false, narrowed := true }
def MeterTurnUptoSaid : Prop := meterTurnUptoRow.holds Try.pinned (OpenSpec.upto meterTurnSpec)

/-- 'gatehouselaw20.MeterMean', WHERE WHAT IT READS IS OF BULK AT MOST 1048576: true; the input reads as it did. -/
def meterMeanUptoRow : OpenClaim := { program := "ytbhchnfdhdjfnaa", sum := "35fd7f151b674157c3dd81ea76e1b07b119b66abd8fa7d40cd89205b8504e857", func := "gatehouse/gatehouselaw20.MeterMean", spec := "meterMean", apart := false, narrowed := true }
def MeterMeanUptoSaid : Prop := meterMeanUptoRow.holds Try.pinned (OpenSpec.upto meterMeanSpec)

/-- 'gatehouselaw20.MeterAlike', WHERE WHAT IT READS IS OF BULK AT MOST 1048576: true; the input reads as it did. -/
def meterAlikeUptoRow : OpenClaim := { program := "ytbhchnfdhdjfnaa", sum := "35fd7f151b674157c3dd81ea76e1b07b119b66abd8fa7d40cd89205b8504e857", func := "gatehouse/gatehouselaw20.MeterAlike", spec := "meterAlike", apart := false, narrowed := true }
def MeterAlikeUptoSaid : Prop := meterAlikeUptoRow.holds Try.pinned (OpenSpec.upto meterAlikeSpec)

/-- 'gatehouselaw20.MeterTwo', WHERE WHAT IT READS IS OF BULK AT MOST 1048576: true; the input reads as it did. -/
def meterTwoUptoRow : OpenClaim := { program := "ytbhchnfdhdjfnaa", sum := "35fd7f151b674157c3dd81ea76e1b07b119b66abd8fa7d40cd89205b8504e857", func := "gatehouse/gatehouselaw20.MeterTwo", spec := "meterTwo", apart := false, narrowed := true }
def MeterTwoUptoSaid : Prop := meterTwoUptoRow.holds Try.pinned (OpenSpec.upto meterTwoSpec)

/-- 'gatehouselaw20.MeterNames', WHERE WHAT IT READS IS OF BULK AT MOST 1048576: true; the input reads as it did. -/
def meterNamesUptoRow : OpenClaim := { program := "ytbhchnfdhdjfnaa", sum := "35fd7f151b674157c3dd81ea76e1b07b119b66abd8fa7d40cd89205b8504e857", func := "gatehouse/gatehouselaw20.MeterNames", spec := "meterNames", apart := false, narrowed := true }
def MeterNamesUptoSaid : Prop := meterNamesUptoRow.holds Try.pinned (OpenSpec.upto meterNamesSpec)

/-- 'gatehouselaw20.MeterScript', WHERE WHAT IT READS IS OF BULK AT MOST 1048576: true; the input reads as it did. -/
def meterScriptUptoRow : OpenClaim := { program := "ytbhchnfdhdjfnaa", sum := "35fd7f151b674157c3dd81ea76e1b07b119b66abd8fa7d40cd89205b8504e857", func := "gatehouse/gatehouselaw20.MeterScript", spec := "meterScript", apart := false, narrowed := true }
def MeterScriptUptoSaid : Prop := meterScriptUptoRow.holds Try.pinned (OpenSpec.upto meterScriptSpec)

/-- 'gatehouselaw20.MeterHalf', WHERE WHAT IT READS IS OF BULK AT MOST 1048576: true; the input reads as it did. -/
def meterHalfUptoRow : OpenClaim := { program := "ytbhchnfdhdjfnaa", sum := "35fd7f151b674157c3dd81ea76e1b07b119b66abd8fa7d40cd89205b8504e857", func := "gatehouse/gatehouselaw20.MeterHalf", spec := "meterHalf", apart := false, narrowed := true }
def MeterHalfUptoSaid : Prop := meterHalfUptoRow.holds Try.pinned (OpenSpec.upto meterHalfSpec)

/-- 'gatehouselaw20.MeterFirst', WHERE WHAT IT READS IS OF BULK AT MOST 1048576: true; the input reads as it did. -/
def meterFirstUptoRow : OpenClaim := { program := "ytbhchnfdhdjfnaa", sum := "35fd7f151b674157c3dd81ea76e1b07b119b66abd8fa7d40cd89205b8504e857", func := "gatehouse/gatehouselaw20.MeterFirst", spec := "meterFirst", apart := false, narrowed := true }
def MeterFirstUptoSaid : Prop := meterFirstUptoRow.holds Try.pinned (OpenSpec.upto meterFirstSpec)

/-- 'gatehouselaw20.MeterSum', WHERE WHAT IT READS IS OF BULK AT MOST 1048576: true; the input reads as it did. -/
def meterSumUptoRow : OpenClaim := { program := "ytbhchnfdhdjfnaa", sum := "35fd7f151b674157c3dd81ea76e1b07b119b66abd8fa7d40cd89205b8504e857", func := "gatehouse/gatehouselaw20.MeterSum", spec := "meterSum", apart := false, narrowed := true }
def MeterSumUptoSaid : Prop := meterSumUptoRow.holds Try.pinned (OpenSpec.upto meterSumSpec)

end Rows
end Go.Proofs.Ytbhchnfdhdjfnaa

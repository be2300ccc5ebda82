/-
  No cell of these rows narrows 'for every input' (looked for: loops, veiled, ifaces, maps, wideKeys, modest, calm, conditions, laid).
  DERIVED. THE GIVEN ROWS OF THIS SEAT. 10 by the template 'for every input the law returns true; each argument reads behind the call as it read before'; 0 by the template 'total and deterministic' (their statements: YtecppnkfnppmoaaTotals.lean).
  GIVEN WITH THE SEED: the statements are not yours to turn. If you find one false, say at which input.
  Laid BY PROGRAM, IN A SANDBOX (cutbox-rows.mjs): the forced cells as the released guide's own fill.sh prints them over the translation fc412709d92a011b… (all of the seat's roots in one cut). By AI agents, Wed Nov 11 2026. No macro, syntax, notation, axiom, sorry.
-/
import Derived.Test.YtecppnkfnppmoaaChecked
import GoSem.Claim
import GoSem.ClaimJoined
import GoSem.ClaimMapViews
import Derived.JoinedTies
import Derived.KernelRfl
namespace Go.Proofs.Ytecppnkfnppmoaa
/- THE CELL 'sum', in the pinned program and in every row, IS THE sha256 OF THE DUMP (.gsa) THAT YtecppnkfnppmoaaProg.lean LOADS. Nothing in Lean hashes anything: it is a label: what it is worth is what the hold of that sum in a sandbox is worth. -/
noncomputable def Try.pinned : Pinned := { name := "ytecppnkfnppmoaa", sum := "fc412709d92a011bceb2288a76a0760a6d6db77efb81fe2721c0b57533f1c85c", checked := Try.checked }
namespace Rows
def none {H : Type} : Left H := { results := [], args := [] }

/-- 'gatehouselaw16.SchedRound': WHATEVER THE INPUT: true; the input reads as it did. -/
def schedRoundSpec : ChangeSpec := { name := "schedRound", fn := fun _ => fun
  | [d1, d2, d3] => { results := [.lit (.bool true)], args := [d1, d2, d3] }
  | _ => none }
def schedRoundRow : OpenClaim := { program := "ytecppnkfnppmoaa", sum := "fc412709d92a011bceb2288a76a0760a6d6db77efb81fe2721c0b57533f1c85c", func := "gatehouse/gatehouselaw16.SchedRound", spec := "schedRound", apart := false }
def SchedRoundSaid : Prop := schedRoundRow.holds Try.pinned (OpenSpec.ofChange schedRoundSpec)

/-- ITS FALSE NEIGHBOUR: 'it returns false'. Refute it at one input. -/
def schedRoundWrong : ChangeSpec := { name := "schedRound", fn := fun _ => fun
  | [d1, d2, d3] => { results := [.lit (.bool false)], args := [d1, d2, d3] }
  | _ => none }
def SchedRoundWrongFalsely : Prop := schedRoundRow.holds Try.pinned (OpenSpec.ofChange schedRoundWrong)

/-- 'gatehouselaw16.SchedCounter': WHATEVER THE INPUT: true; the input reads as it did. -/
def schedCounterSpec : ChangeSpec := { name := "schedCounter", fn := fun _ => fun
  | [d1, d2, d3] => { results := [.lit (.bool true)], args := [d1, d2, d3] }
  | _ => none }
def schedCounterRow : OpenClaim := { program := "ytecppnkfnppmoaa", sum := "fc412709d92a011bceb2288a76a0760a6d6db77efb81fe2721c0b57533f1c85c", func := "gatehouse/gatehouselaw16.SchedCounter", spec := "schedCounter", apart := false }
def SchedCounterSaid : Prop := schedCounterRow.holds Try.pinned (OpenSpec.ofChange schedCounterSpec)

/-- ITS FALSE NEIGHBOUR: 'it returns false'. Refute it at one input. -/
def schedCounterWrong : ChangeSpec := { name := "schedCounter", fn := fun _ => fun
  | [d1, d2, d3] => { results := [.lit (.bool false)], args := [d1, d2, d3] }
  | _ => none }
def SchedCounterWrongFalsely : Prop := schedCounterRow.holds Try.pinned (OpenSpec.ofChange schedCounterWrong)

/-- 'gatehouselaw16.SchedFair': WHATEVER THE INPUT: true; the input reads as it did. -/
def schedFairSpec : ChangeSpec := { name := "schedFair", fn := fun _ => fun
  | [d1, d2, d3] => { results := [.lit (.bool true)], args := [d1, d2, d3] }
  | _ => none }
def schedFairRow : OpenClaim := { program := "ytecppnkfnppmoaa", sum := "fc412709d92a011bceb2288a76a0760a6d6db77efb81fe2721c0b57533f1c85c", func := "gatehouse/gatehouselaw16.SchedFair", spec := "schedFair", apart := false }
def SchedFairSaid : Prop := schedFairRow.holds Try.pinned (OpenSpec.ofChange schedFairSpec)

/-- ITS FALSE NEIGHBOUR: 'it returns false'. Refute it at one input. -/
def schedFairWrong : ChangeSpec := { name := "schedFair", fn := fun _ => fun
  | [d1, d2, d3] => { results := [.lit (.bool false)], args := [d1, d2, d3] }
  | _ => none }
def SchedFairWrongFalsely : Prop := schedFairRow.holds Try.pinned (OpenSpec.ofChange schedFairWrong)

/-- 'gatehouselaw16.SchedBoard': WHATEVER THE INPUT: true; the input reads as it did. -/
def schedBoardSpec : ChangeSpec := { name := "schedBoard", fn := fun _ => fun
  | [d1, d2] => { results := [.lit (.bool true)], args := [d1, d2] }
  | _ => none }
def schedBoardRow : OpenClaim := { program := "ytecppnkfnppmoaa", sum := "fc412709d92a011bceb2288a76a0760a6d6db77efb81fe2721c0b57533f1c85c", func := "gatehouse/gatehouselaw16.SchedBoard", spec := "schedBoard", unfollowed := true, recurses := true, apart := false }
def SchedBoardSaid : Prop := schedBoardRow.holds Try.pinned (OpenSpec.ofChange schedBoardSpec)

/-- ITS FALSE NEIGHBOUR: 'it returns false'. Refute it at one input. -/
def schedBoardWrong : ChangeSpec := { name := "schedBoard", fn := fun _ => fun
  | [d1, d2] => { results := [.lit (.bool false)], args := [d1, d2] }
  | _ => none }
def SchedBoardWrongFalsely : Prop := schedBoardRow.holds Try.pinned (OpenSpec.ofChange schedBoardWrong)

/-- 'gatehouselaw16.SchedMixes': WHATEVER THE INPUT: true; the input reads as it did. -/
def schedMixesSpec : ChangeSpec := { name := "schedMixes", fn := fun _ => fun
  | [d1, d2] => { results := [.lit (.bool true)], args := [d1, d2] }
  | _ => none }
def schedMixesRow : OpenClaim := { program := "ytecppnkfnppmoaa", sum := "fc412709d92a011bceb2288a76a0760a6d6db77efb81fe2721c0b57533f1c85c", func := "gatehouse/gatehouselaw16.SchedMixes", spec := "schedMixes", unfollowed := true, recurses := true, apart := false }
def SchedMixesSaid : Prop := schedMixesRow.holds Try.pinned (OpenSpec.ofChange schedMixesSpec)

/-- ITS FALSE NEIGHBOUR: 'it returns false'. Refute it at one input. -/
def schedMixesWrong : ChangeSpec := { name := "schedMixes", fn := fun _ => fun
  | [d1, d2] => { results := [.lit (.bool false)], args := [d1, d2] }
  | _ => none }
def SchedMixesWrongFalsely : Prop := schedMixesRow.holds Try.pinned (OpenSpec.ofChange schedMixesWrong)

/-- 'gatehouselaw16.SchedNames': WHATEVER THE INPUT: true; the input reads as it did. -/
def schedNamesSpec : ChangeSpec := { name := "schedNames", fn := fun _ => fun
  | [] => { results := [.lit (.bool true)], args := [] }
  | _ => none }
def schedNamesRow : OpenClaim := { program := "ytecppnkfnppmoaa", sum := "fc412709d92a011bceb2288a76a0760a6d6db77efb81fe2721c0b57533f1c85c", func := "gatehouse/gatehouselaw16.SchedNames", spec := "schedNames", unfollowed := true, recurses := true, apart := false }
def SchedNamesSaid : Prop := schedNamesRow.holds Try.pinned (OpenSpec.ofChange schedNamesSpec)

/-- ITS FALSE NEIGHBOUR: 'it returns false'. Refute it at one input. -/
def schedNamesWrong : ChangeSpec := { name := "schedNames", fn := fun _ => fun
  | [] => { results := [.lit (.bool false)], args := [] }
  | _ => none }
def SchedNamesWrongFalsely : Prop := schedNamesRow.holds Try.pinned (OpenSpec.ofChange schedNamesWrong)

/-- 'gatehouselaw16.SchedOnce': WHATEVER THE INPUT: true; the input reads as it did. -/
def schedOnceSpec : ChangeSpec := { name := "schedOnce", fn := fun _ => fun
  | [d1, d2] => { results := [.lit (.bool true)], args := [d1, d2] }
  | _ => none }
def schedOnceRow : OpenClaim := { program := "ytecppnkfnppmoaa", sum := "fc412709d92a011bceb2288a76a0760a6d6db77efb81fe2721c0b57533f1c85c", func := "gatehouse/gatehouselaw16.SchedOnce", spec := "schedOnce", unfollowed := true, recurses := true, apart := false }
def SchedOnceSaid : Prop := schedOnceRow.holds Try.pinned (OpenSpec.ofChange schedOnceSpec)

/-- ITS FALSE NEIGHBOUR: 'it returns false'. Refute it at one input. -/
def schedOnceWrong : ChangeSpec := { name := "schedOnce", fn := fun _ => fun
  | [d1, d2] => { results := [.lit (.bool false)], args := [d1, d2] }
  | _ => none }
def SchedOnceWrongFalsely : Prop := schedOnceRow.holds Try.pinned (OpenSpec.ofChange schedOnceWrong)

/-- 'gatehouselaw16.SchedWhole': WHATEVER THE INPUT: true; the input reads as it did. -/
def schedWholeSpec : ChangeSpec := { name := "schedWhole", fn := fun _ => fun
  | [d1, d2] => { results := [.lit (.bool true)], args := [d1, d2] }
  | _ => none }
def schedWholeRow : OpenClaim := { program := "ytecppnkfnppmoaa", sum := "fc412709d92a011bceb2288a76a0760a6d6db77efb81fe2721c0b57533f1c85c", func := "gatehouse/gatehouselaw16.SchedWhole", spec := "schedWhole", unfollowed := true, recurses := true, apart := false }
def SchedWholeSaid : Prop := schedWholeRow.holds Try.pinned (OpenSpec.ofChange schedWholeSpec)

/-- ITS FALSE NEIGHBOUR: 'it returns false'. Refute it at one input. -/
def schedWholeWrong : ChangeSpec := { name := "schedWhole", fn := fun _ => fun
  | [d1, d2] => { results := [.lit (.bool false)], args := [d1, d2] }
  | _ => none }
def SchedWholeWrongFalsely : Prop := schedWholeRow.holds Try.pinned (OpenSpec.ofChange schedWholeWrong)

/-- 'gatehouselaw16.SchedTurns': WHATEVER THE INPUT: true; the input reads as it did. -/
def schedTurnsSpec : ChangeSpec := { name := "schedTurns", fn := fun _ => fun
  | [d1, d2, d3] => { results := [.lit (.bool true)], args := [d1, d2, d3] }
  | _ => none }
def schedTurnsRow : OpenClaim := { program := "ytecppnkfnppmoaa", sum := "fc412709d92a011bceb2288a76a0760a6d6db77efb81fe2721c0b57533f1c85c", func := "gatehouse/gatehouselaw16.SchedTurns", spec := "schedTurns", unfollowed := true, recurses := true, apart := false }
def SchedTurnsSaid : Prop := schedTurnsRow.holds Try.pinned (OpenSpec.ofChange schedTurnsSpec)

/-- ITS FALSE NEIGHBOUR: 'it returns false'. Refute it at one input. -/
def schedTurnsWrong : ChangeSpec := { name := "schedTurns", fn := fun _ => fun
  | [d1, d2, d3] => { results := [.lit (.bool false)], args := [d1, d2, d3] }
  | _ => none }
def SchedTurnsWrongFalsely : Prop := schedTurnsRow.holds Try.pinned (OpenSpec.ofChange schedTurnsWrong)

/-- 'gatehouselaw16.SchedOften': WHATEVER THE INPUT: true; the input reads as it did. -/
def schedOftenSpec : ChangeSpec := { name := "schedOften", fn := fun _ => fun
  | [d1, d2, d3, d4] => { results := [.lit (.bool true)], args := [d1, d2, d3, d4] }
  | _ => none }
def schedOftenRow : OpenClaim := { program := "ytecppnkfnppmoaa", sum := "fc412709d92a011bceb2288a76a0760a6d6db77efb81fe2721c0b57533f1c85c", func := "gatehouse/gatehouselaw16.SchedOften", spec := "schedOften", unfollowed := true, recurses := true, apart := false }
def SchedOftenSaid : Prop := schedOftenRow.holds Try.pinned (OpenSpec.ofChange schedOftenSpec)

/-- ITS FALSE NEIGHBOUR: 'it returns false'. Refute it at one input. -/
def schedOftenWrong : ChangeSpec := { name := "schedOften", fn := fun _ => fun
  | [d1, d2, d3, d4] => { results := [.lit (.bool false)], args := [d1, d2, d3, d4] }
  | _ => none }
def SchedOftenWrongFalsely : Prop := schedOftenRow.holds Try.pinned (OpenSpec.ofChange schedOftenWrong)

/- THE SECOND FORM. 'bulk': how many values and letters a reading holds, each counted each time it is reached (what is shared counts as often as it is met; a slice's spare places count too). A statement '..UptoSaid' is the law's where the arguments, and the package variables that the reading takes, are together of bulk at most 1048576: NARROWER than '..Said'. Prove '..Said' where nothing that the law and all that it calls make is longer than what came in: it says more and counts as full. Else prove '..UptoSaid'. A law counts once. -/
mutual
def uptoBulk {H : Type} : DataW H → Nat
  | .lit (.string bytes) => bytes.length + 1
  | .lit _ => 1
  | .nil => 1
  | .ptr d => uptoBulk d + 1
  | .slice elems spare => uptoBulkAll elems + uptoBulkAll spare + 1
  | .agg parts => uptoBulkAll parts + 1
  | .iface _ d => uptoBulk d + 1
  | .map entries => uptoBulkEntries entries + 1
  | .held _ => 1
def uptoBulkAll {H : Type} : List (DataW H) → Nat
  | [] => 0
  | d :: r => uptoBulk d + uptoBulkAll r
def uptoBulkEntries {H : Type} : List (Lit × DataW H) → Nat
  | [] => 0
  | x :: r => uptoBulkEntry x + uptoBulkEntries r
def uptoBulkEntry {H : Type} : Lit × DataW H → Nat
  | (.string bytes, d) => bytes.length + uptoBulk d + 1
  | (_, d) => uptoBulk d + 1
 end
def uptoSmall : (H : Type) → List (DataW H) → Bool := fun _ ds => decide (uptoBulkAll ds ≤ 1048576)
def OpenSpec.upto (s : _root_.Go.ChangeSpec) : _root_.Go.OpenSpec := { _root_.Go.OpenSpec.ofChange s with cond := some uptoSmall }

/-- 'gatehouselaw16.SchedRound', WHERE WHAT IT READS IS OF BULK AT MOST 1048576: true; the input reads as it did. -/
def schedRoundUptoRow : OpenClaim := { program := "ytecppnkfnppmoaa", sum := "fc412709d92a011bceb2288a76a0760a6d6db77efb81fe2721c0b57533f1c85c", func := "gatehouse/gatehouselaw16.SchedRound", spec := "schedRound", apart := false, narrowed := true }
def SchedRoundUptoSaid : Prop := schedRoundUptoRow.holds Try.pinned (OpenSpec.upto schedRoundSpec)

/-- 'gatehouselaw16.SchedCounter', WHERE WHAT IT READS IS OF BULK AT MOST 1048576: true; the input reads as it did. -/
def schedCounterUptoRow : OpenClaim := { program := "ytecppnkfnppmoaa", sum := "fc412709d92a011bceb2288a76a0760a6d6db77efb81fe2721c0b57533f1c85c", func := "gatehouse/gatehouselaw16.SchedCounter", spec := "schedCounter", apart := false, narrowed := true }
def SchedCounterUptoSaid : Prop := schedCounterUptoRow.holds Try.pinned (OpenSpec.upto schedCounterSpec)

/-- 'gatehouselaw16.SchedFair', WHERE WHAT IT READS IS OF BULK AT MOST 1048576: true; the input reads as it did. -/
def schedFairUptoRow : OpenClaim := { program := "ytecppnkfnppmoaa", sum := "fc412709d92a011bceb2288a76a0760a6d6db77efb81fe2721c0b57533f1c85c", func := "gatehouse/gatehouselaw16.SchedFair", spec := "schedFair", apart := false, narrowed := true }
def SchedFairUptoSaid : Prop := schedFairUptoRow.holds Try.pinned (OpenSpec.upto schedFairSpec)

/-- 'gatehouselaw16.SchedBoard', WHERE WHAT IT READS IS OF BULK AT MOST 1048576: true; the input reads as it did. -/
def schedBoardUptoRow : OpenClaim := { program := "ytecppnkfnppmoaa", sum := "fc412709d92a011bceb2288a76a0760a6d6db77efb81fe2721c0b57533f1c85c", func := "gatehouse/gatehouselaw16.SchedBoard", spec := "schedBoard", unfollowed := true, recurses := true, apart := false, narrowed := true }
def SchedBoardUptoSaid : Prop := schedBoardUptoRow.holds Try.pinned (OpenSpec.upto schedBoardSpec)

/-- 'gatehouselaw16.SchedMixes', WHERE WHAT IT READS IS OF BULK AT MOST 1048576: true; the input reads as it did. -/
def schedMixesUptoRow : OpenClaim := { program := "ytecppnkfnppmoaa", sum := "fc412709d92a011bceb2288a76a0760a6d6db77efb81fe2721c0b57533f1c85c", func := "gatehouse/gatehouselaw16.SchedMixes", spec := "schedMixes", unfollowed := true, recurses := true, apart := false, narrowed := true }
def SchedMixesUptoSaid : Prop := schedMixesUptoRow.holds Try.pinned (OpenSpec.upto schedMixesSpec)

/-- 'gatehouselaw16.SchedNames', WHERE WHAT IT READS IS OF BULK AT MOST 1048576: true; the input reads as it did. -/
def schedNamesUptoRow : OpenClaim := { program := "ytecppnkfnppmoaa", sum := "fc412709d92a011bceb2288a76a0760a6d6db77efb81fe2721c0b57533f1c85c", func := "gatehouse/gatehouselaw16.SchedNames", spec := "schedNames", unfollowed := true, recurses := true, apart := false, narrowed := true }
def SchedNamesUptoSaid : Prop := schedNamesUptoRow.holds Try.pinned (OpenSpec.upto schedNamesSpec)

/-- 'gatehouselaw16.SchedOnce', WHERE WHAT IT READS IS OF BULK AT MOST 1048576: true; the input reads as it did. -/
def schedOnceUptoRow : OpenClaim := { program := "ytecppnkfnppmoaa", sum := "fc412709d92a011bceb2288a76a0760a6d6db77efb81fe2721c0b57533f1c85c", func := "gatehouse/gatehouselaw16.SchedOnce", spec := "schedOnce", unfollowed := true, recurses := true, apart := false, narrowed := true }
def SchedOnceUptoSaid : Prop := schedOnceUptoRow.holds Try.pinned (OpenSpec.upto schedOnceSpec)

/-- 'gatehouselaw16.SchedWhole', WHERE WHAT IT READS IS OF BULK AT MOST 1048576: true; the input reads as it did. -/
def schedWholeUptoRow : OpenClaim := { program := "ytecppnkfnppmoaa", sum := "fc412709d92a011bceb2288a76a0760a6d6db77efb81fe2721c0b57533f1c85c", func := "gatehouse/gatehouselaw16.SchedWhole", spec := "schedWhole", unfollowed := true, recurses := true, apart := false, narrowed := true }
def SchedWholeUptoSaid : Prop := schedWholeUptoRow.holds Try.pinned (OpenSpec.upto schedWholeSpec)

/-- 'gatehouselaw16.SchedTurns', WHERE WHAT IT READS IS OF BULK AT MOST 1048576: true; the input reads as it did. -/
def schedTurnsUptoRow : OpenClaim := { program := "ytecppnkfnppmoaa", sum := "fc412709d92a011bceb2288a76a0760a6d6db77efb81fe2721c0b57533f1c85c", func := "gatehouse/gatehouselaw16.SchedTurns", spec := "schedTurns", unfollowed := true, recurses := true, apart := false, narrowed := true }
def SchedTurnsUptoSaid : Prop := schedTurnsUptoRow.holds Try.pinned (OpenSpec.upto schedTurnsSpec)

/-- 'gatehouselaw16.SchedOften', WHERE WHAT IT READS IS OF BULK AT MOST 1048576: true; the input reads as it did. -/
def schedOftenUptoRow : OpenClaim := { program := "ytecppnkfnppmoaa", sum := "fc412709d92a011bceb2288a76a0760a6d6db77efb81fe2721c0b57533f1c85c", func := "gatehouse/gatehouselaw16.SchedOften", spec := "schedOften", unfollowed := true, recurses := true, apart := false, narrowed := true }
def SchedOftenUptoSaid : Prop := schedOftenUptoRow.holds Try.pinned (OpenSpec.upto schedOftenSpec)

end Rows
end Go.Proofs.Ytecppnkfnppmoaa

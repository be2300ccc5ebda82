/-
  No cell of these rows narrows 'for every input' (looked for: loops, veiled, ifaces, maps, wideKeys, modest, calm, conditions, laid).
  DERIVED. THE GIVEN ROWS OF THIS SEAT. 9 by the template 'for every input the law returns true; each argument reads behind the call as it read before'; 0 by the template 'total and deterministic' (their statements: YthjldlgmfplngaaTotals.lean).
  GIVEN WITH THE SEED: the statements are not yours to turn. If you find one false, say at which input.
  Laid BY PROGRAM, IN A SANDBOX (cutbox-rows.mjs): the forced cells as the released guide's own fill.sh prints them over the translation 56c7b2b61da2d8da… (all of the seat's roots in one cut). By AI agents, Wed Nov 11 2026. No macro, syntax, notation, axiom, sorry.
-/
import Derived.Test.YthjldlgmfplngaaChecked
import GoSem.Claim
import GoSem.ClaimJoined
import GoSem.ClaimMapViews
import Derived.JoinedTies
import Derived.KernelRfl
namespace Go.Proofs.Ythjldlgmfplngaa
/- THE CELL 'sum', in the pinned program and in every row, IS THE sha256 OF THE DUMP (.gsa) THAT YthjldlgmfplngaaProg.lean LOADS. Nothing in Lean hashes anything: it is a label: what it is worth is what the hold of that sum in a sandbox is worth. -/
noncomputable def Try.pinned : Pinned := { name := "ythjldlgmfplngaa", sum := "56c7b2b61da2d8dad83d0e1f7c453af86d448daf8ac88ae9332bb9f21bb09cff", checked := Try.checked }
namespace Rows
def none {H : Type} : Left H := { results := [], args := [] }

/-- 'gatehouselaw07.ReachClose': WHATEVER THE INPUT: true; the input reads as it did. -/
def reachCloseSpec : ChangeSpec := { name := "reachClose", fn := fun _ => fun
  | [d1, d2] => { results := [.lit (.bool true)], args := [d1, d2] }
  | _ => none }
def reachCloseRow : OpenClaim := { program := "ythjldlgmfplngaa", sum := "56c7b2b61da2d8dad83d0e1f7c453af86d448daf8ac88ae9332bb9f21bb09cff", func := "gatehouse/gatehouselaw07.ReachClose", spec := "reachClose", unfollowed := true, recurses := true, plainKeys := false, apart := false }
def ReachCloseSaid : Prop := reachCloseRow.holds Try.pinned (OpenSpec.ofChange reachCloseSpec)

/-- ITS FALSE NEIGHBOUR: 'it returns false'. Refute it at one input. -/
def reachCloseWrong : ChangeSpec := { name := "reachClose", fn := fun _ => fun
  | [d1, d2] => { results := [.lit (.bool false)], args := [d1, d2] }
  | _ => none }
def ReachCloseWrongFalsely : Prop := reachCloseRow.holds Try.pinned (OpenSpec.ofChange reachCloseWrong)

/-- 'gatehouselaw07.ReachKinds': WHATEVER THE INPUT: true; the input reads as it did. -/
def reachKindsSpec : ChangeSpec := { name := "reachKinds", fn := fun _ => fun
  | [d1, d2] => { results := [.lit (.bool true)], args := [d1, d2] }
  | _ => none }
def reachKindsRow : OpenClaim := { program := "ythjldlgmfplngaa", sum := "56c7b2b61da2d8dad83d0e1f7c453af86d448daf8ac88ae9332bb9f21bb09cff", func := "gatehouse/gatehouselaw07.ReachKinds", spec := "reachKinds", unfollowed := true, recurses := true, plainKeys := false, apart := false }
def ReachKindsSaid : Prop := reachKindsRow.holds Try.pinned (OpenSpec.ofChange reachKindsSpec)

/-- ITS FALSE NEIGHBOUR: 'it returns false'. Refute it at one input. -/
def reachKindsWrong : ChangeSpec := { name := "reachKinds", fn := fun _ => fun
  | [d1, d2] => { results := [.lit (.bool false)], args := [d1, d2] }
  | _ => none }
def ReachKindsWrongFalsely : Prop := reachKindsRow.holds Try.pinned (OpenSpec.ofChange reachKindsWrong)

/-- 'gatehouselaw07.ReachUp': WHATEVER THE INPUT: true; the input reads as it did. -/
def reachUpSpec : ChangeSpec := { name := "reachUp", fn := fun _ => fun
  | [d1, d2, d3] => { results := [.lit (.bool true)], args := [d1, d2, d3] }
  | _ => none }
def reachUpRow : OpenClaim := { program := "ythjldlgmfplngaa", sum := "56c7b2b61da2d8dad83d0e1f7c453af86d448daf8ac88ae9332bb9f21bb09cff", func := "gatehouse/gatehouselaw07.ReachUp", spec := "reachUp", unfollowed := true, recurses := true, plainKeys := false, apart := false }
def ReachUpSaid : Prop := reachUpRow.holds Try.pinned (OpenSpec.ofChange reachUpSpec)

/-- ITS FALSE NEIGHBOUR: 'it returns false'. Refute it at one input. -/
def reachUpWrong : ChangeSpec := { name := "reachUp", fn := fun _ => fun
  | [d1, d2, d3] => { results := [.lit (.bool false)], args := [d1, d2, d3] }
  | _ => none }
def ReachUpWrongFalsely : Prop := reachUpRow.holds Try.pinned (OpenSpec.ofChange reachUpWrong)

/-- 'gatehouselaw07.ReachPath': WHATEVER THE INPUT: true; the input reads as it did. -/
def reachPathSpec : ChangeSpec := { name := "reachPath", fn := fun _ => fun
  | [d1, d2, d3] => { results := [.lit (.bool true)], args := [d1, d2, d3] }
  | _ => none }
def reachPathRow : OpenClaim := { program := "ythjldlgmfplngaa", sum := "56c7b2b61da2d8dad83d0e1f7c453af86d448daf8ac88ae9332bb9f21bb09cff", func := "gatehouse/gatehouselaw07.ReachPath", spec := "reachPath", unfollowed := true, recurses := true, plainKeys := false, apart := false }
def ReachPathSaid : Prop := reachPathRow.holds Try.pinned (OpenSpec.ofChange reachPathSpec)

/-- ITS FALSE NEIGHBOUR: 'it returns false'. Refute it at one input. -/
def reachPathWrong : ChangeSpec := { name := "reachPath", fn := fun _ => fun
  | [d1, d2, d3] => { results := [.lit (.bool false)], args := [d1, d2, d3] }
  | _ => none }
def ReachPathWrongFalsely : Prop := reachPathRow.holds Try.pinned (OpenSpec.ofChange reachPathWrong)

/-- 'gatehouselaw07.ReachRings': WHATEVER THE INPUT: true; the input reads as it did. -/
def reachRingsSpec : ChangeSpec := { name := "reachRings", fn := fun _ => fun
  | [d] => { results := [.lit (.bool true)], args := [d] }
  | _ => none }
def reachRingsRow : OpenClaim := { program := "ythjldlgmfplngaa", sum := "56c7b2b61da2d8dad83d0e1f7c453af86d448daf8ac88ae9332bb9f21bb09cff", func := "gatehouse/gatehouselaw07.ReachRings", spec := "reachRings", unfollowed := true, recurses := true, plainKeys := false, apart := false }
def ReachRingsSaid : Prop := reachRingsRow.holds Try.pinned (OpenSpec.ofChange reachRingsSpec)

/-- ITS FALSE NEIGHBOUR: 'it returns false'. Refute it at one input. -/
def reachRingsWrong : ChangeSpec := { name := "reachRings", fn := fun _ => fun
  | [d] => { results := [.lit (.bool false)], args := [d] }
  | _ => none }
def ReachRingsWrongFalsely : Prop := reachRingsRow.holds Try.pinned (OpenSpec.ofChange reachRingsWrong)

/-- 'gatehouselaw07.ReachLeast': WHATEVER THE INPUT: true; the input reads as it did. -/
def reachLeastSpec : ChangeSpec := { name := "reachLeast", fn := fun _ => fun
  | [d1, d2] => { results := [.lit (.bool true)], args := [d1, d2] }
  | _ => none }
def reachLeastRow : OpenClaim := { program := "ythjldlgmfplngaa", sum := "56c7b2b61da2d8dad83d0e1f7c453af86d448daf8ac88ae9332bb9f21bb09cff", func := "gatehouse/gatehouselaw07.ReachLeast", spec := "reachLeast", unfollowed := true, recurses := true, plainKeys := false, apart := false }
def ReachLeastSaid : Prop := reachLeastRow.holds Try.pinned (OpenSpec.ofChange reachLeastSpec)

/-- ITS FALSE NEIGHBOUR: 'it returns false'. Refute it at one input. -/
def reachLeastWrong : ChangeSpec := { name := "reachLeast", fn := fun _ => fun
  | [d1, d2] => { results := [.lit (.bool false)], args := [d1, d2] }
  | _ => none }
def ReachLeastWrongFalsely : Prop := reachLeastRow.holds Try.pinned (OpenSpec.ofChange reachLeastWrong)

/-- 'gatehouselaw07.ReachShort': WHATEVER THE INPUT: true; the input reads as it did. -/
def reachShortSpec : ChangeSpec := { name := "reachShort", fn := fun _ => fun
  | [d1, d2, d3] => { results := [.lit (.bool true)], args := [d1, d2, d3] }
  | _ => none }
def reachShortRow : OpenClaim := { program := "ythjldlgmfplngaa", sum := "56c7b2b61da2d8dad83d0e1f7c453af86d448daf8ac88ae9332bb9f21bb09cff", func := "gatehouse/gatehouselaw07.ReachShort", spec := "reachShort", unfollowed := true, recurses := true, plainKeys := false, apart := false }
def ReachShortSaid : Prop := reachShortRow.holds Try.pinned (OpenSpec.ofChange reachShortSpec)

/-- ITS FALSE NEIGHBOUR: 'it returns false'. Refute it at one input. -/
def reachShortWrong : ChangeSpec := { name := "reachShort", fn := fun _ => fun
  | [d1, d2, d3] => { results := [.lit (.bool false)], args := [d1, d2, d3] }
  | _ => none }
def ReachShortWrongFalsely : Prop := reachShortRow.holds Try.pinned (OpenSpec.ofChange reachShortWrong)

/-- 'gatehouselaw07.ReachThrough': WHATEVER THE INPUT: true; the input reads as it did. -/
def reachThroughSpec : ChangeSpec := { name := "reachThrough", fn := fun _ => fun
  | [d1, d2, d3, d4] => { results := [.lit (.bool true)], args := [d1, d2, d3, d4] }
  | _ => none }
def reachThroughRow : OpenClaim := { program := "ythjldlgmfplngaa", sum := "56c7b2b61da2d8dad83d0e1f7c453af86d448daf8ac88ae9332bb9f21bb09cff", func := "gatehouse/gatehouselaw07.ReachThrough", spec := "reachThrough", unfollowed := true, recurses := true, plainKeys := false, apart := false }
def ReachThroughSaid : Prop := reachThroughRow.holds Try.pinned (OpenSpec.ofChange reachThroughSpec)

/-- ITS FALSE NEIGHBOUR: 'it returns false'. Refute it at one input. -/
def reachThroughWrong : ChangeSpec := { name := "reachThrough", fn := fun _ => fun
  | [d1, d2, d3, d4] => { results := [.lit (.bool false)], args := [d1, d2, d3, d4] }
  | _ => none }
def ReachThroughWrongFalsely : Prop := reachThroughRow.holds Try.pinned (OpenSpec.ofChange reachThroughWrong)

/-- 'gatehouselaw07.ReachRound': WHATEVER THE INPUT: true; the input reads as it did. -/
def reachRoundSpec : ChangeSpec := { name := "reachRound", fn := fun _ => fun
  | [d1, d2, d3] => { results := [.lit (.bool true)], args := [d1, d2, d3] }
  | _ => none }
def reachRoundRow : OpenClaim := { program := "ythjldlgmfplngaa", sum := "56c7b2b61da2d8dad83d0e1f7c453af86d448daf8ac88ae9332bb9f21bb09cff", func := "gatehouse/gatehouselaw07.ReachRound", spec := "reachRound", unfollowed := true, recurses := true, plainKeys := false, apart := false }
def ReachRoundSaid : Prop := reachRoundRow.holds Try.pinned (OpenSpec.ofChange reachRoundSpec)

/-- ITS FALSE NEIGHBOUR: 'it returns false'. Refute it at one input. -/
def reachRoundWrong : ChangeSpec := { name := "reachRound", fn := fun _ => fun
  | [d1, d2, d3] => { results := [.lit (.bool false)], args := [d1, d2, d3] }
  | _ => none }
def ReachRoundWrongFalsely : Prop := reachRoundRow.holds Try.pinned (OpenSpec.ofChange reachRoundWrong)

/- THE SECOND FORM. 'bulk': how many values and letters a reading holds, each counted each time it is reached (what is shared counts as often as it is met; a slice's spare places count too). A statement '..UptoSaid' is the law's where the arguments, and the package variables that the reading takes, are together of bulk at most 1048576: NARROWER than '..Said'. Prove '..Said' where nothing that the law and all that it calls make is longer than what came in: it says more and counts as full. Else prove '..UptoSaid'. A law counts once. -/
mutual
def uptoBulk {H : Type} : DataW H → Nat
  | .lit (.string bytes) => bytes.length + 1
  | .lit _ => 1
  | .nil => 1
  | .ptr d => uptoBulk d + 1
  | .slice elems spare => uptoBulkAll elems + uptoBulkAll spare + 1
  | .agg parts => uptoBulkAll parts + 1
  | .iface _ d => uptoBulk d + 1
  | .map entries => uptoBulkEntries entries + 1
  | .held _ => 1
def uptoBulkAll {H : Type} : List (DataW H) → Nat
  | [] => 0
  | d :: r => uptoBulk d + uptoBulkAll r
def uptoBulkEntries {H : Type} : List (Lit × DataW H) → Nat
  | [] => 0
  | x :: r => uptoBulkEntry x + uptoBulkEntries r
def uptoBulkEntry {H : Type} : Lit × DataW H → Nat
  | (.string bytes, d) => bytes.length + uptoBulk d + 1
  | (_, d) => uptoBulk d + 1
 end
def uptoSmall : (H : Type) → List (DataW H) → Bool := fun _ ds => decide (uptoBulkAll ds ≤ 1048576)
def OpenSpec.upto (s : _root_.Go.ChangeSpec) : _root_.Go.OpenSpec := { _root_.Go.OpenSpec.ofChange s with cond := some uptoSmall }

/-- 'gatehouselaw07.ReachClose', WHERE WHAT IT READS IS OF BULK AT MOST 1048576: true; the input reads as it did. -/
def reachCloseUptoRow : OpenClaim := { program := "ythjldlgmfplngaa", sum := "56c7b2b61da2d8dad83d0e1f7c453af86d448daf8ac88ae9332bb9f21bb09cff", func := "gatehouse/gatehouselaw07.ReachClose", spec := "reachClose", unfollowed := true, recurses := true, plainKeys := false, apart := false, narrowed := true }
def ReachCloseUptoSaid : Prop := reachCloseUptoRow.holds Try.pinned (OpenSpec.upto reachCloseSpec)

/-- 'gatehouselaw07.ReachKinds', WHERE WHAT IT READS IS OF BULK AT MOST 1048576: true; the input reads as it did. -/
def reachKindsUptoRow : OpenClaim := { program := "ythjldlgmfplngaa", sum := "56c7b2b61da2d8dad83d0e1f7c453af86d448daf8ac88ae9332bb9f21bb09cff", func := "gatehouse/gatehouselaw07.ReachKinds", spec := "reachKinds", unfollowed := true, recurses := true, plainKeys := false, apart := false, narrowed := true }
def ReachKindsUptoSaid : Prop := reachKindsUptoRow.holds Try.pinned (OpenSpec.upto reachKindsSpec)

/-- 'gatehouselaw07.ReachUp', WHERE WHAT IT READS IS OF BULK AT MOST 1048576: true; the input reads as it did. -/
def reachUpUptoRow : OpenClaim := { program := "ythjldlgmfplngaa", sum := "56c7b2b61da2d8dad83d0e1f7c453af86d448daf8ac88ae9332bb9f21bb09cff", func := "gatehouse/gatehouselaw07.ReachUp", spec := "reachUp", unfollowed := true, recurses := true, plainKeys := false, apart := false, narrowed := true }
def ReachUpUptoSaid : Prop := reachUpUptoRow.holds Try.pinned (OpenSpec.upto reachUpSpec)

/-- 'gatehouselaw07.ReachPath', WHERE WHAT IT READS IS OF BULK AT MOST 1048576: true; the input reads as it did. -/
def reachPathUptoRow : OpenClaim := { program := "ythjldlgmfplngaa", sum := "56c7b2b61da2d8dad83d0e1f7c453af86d448daf8ac88ae9332bb9f21bb09cff", func := "gatehouse/gatehouselaw07.ReachPath", spec := "reachPath", unfollowed := true, recurses := true, plainKeys := false, apart := false, narrowed := true }
def ReachPathUptoSaid : Prop := reachPathUptoRow.holds Try.pinned (OpenSpec.upto reachPathSpec)

/-- 'gatehouselaw07.ReachRings', WHERE WHAT IT READS IS OF BULK AT MOST 1048576: true; the input reads as it did. -/
def reachRingsUptoRow : OpenClaim := { program := "ythjldlgmfplngaa", sum := "56c7b2b61da2d8dad83d0e1f7c453af86d448daf8ac88ae9332bb9f21bb09cff", func := "gatehouse/gatehouselaw07.ReachRings", spec := "reachRings", unfollowed := true, recurses := true, plainKeys := false, apart := false, narrowed := true }
def ReachRingsUptoSaid : Prop := reachRingsUptoRow.holds Try.pinned (OpenSpec.upto reachRingsSpec)

/-- 'gatehouselaw07.ReachLeast', WHERE WHAT IT READS IS OF BULK AT MOST 1048576: true; the input reads as it did. -/
def reachLeastUptoRow : OpenClaim := { program := "ythjldlgmfplngaa", sum := "56c7b2b61da2d8dad83d0e1f7c453af86d448daf8ac88ae9332bb9f21bb09cff", func := "gatehouse/gatehouselaw07.ReachLeast", spec := "reachLeast", unfollowed := true, recurses := true, plainKeys := false, apart := false, narrowed := true }
def ReachLeastUptoSaid : Prop := reachLeastUptoRow.holds Try.pinned (OpenSpec.upto reachLeastSpec)

/-- 'gatehouselaw07.ReachShort', WHERE WHAT IT READS IS OF BULK AT MOST 1048576: true; the input reads as it did. -/
def reachShortUptoRow : OpenClaim := { program := "ythjldlgmfplngaa", sum := "56c7b2b61da2d8dad83d0e1f7c453af86d448daf8ac88ae9332bb9f21bb09cff", func := "gatehouse/gatehouselaw07.ReachShort", spec := "reachShort", unfollowed := true, recurses := true, plainKeys := false, apart := false, narrowed := true }
def ReachShortUptoSaid : Prop := reachShortUptoRow.holds Try.pinned (OpenSpec.upto reachShortSpec)

/-- 'gatehouselaw07.ReachThrough', WHERE WHAT IT READS IS OF BULK AT MOST 1048576: true; the input reads as it did. -/
def reachThroughUptoRow : OpenClaim := { program := "ythjldlgmfplngaa", sum := "56c7b2b61da2d8dad83d0e1f7c453af86d448daf8ac88ae9332bb9f21bb09cff", func := "gatehouse/gatehouselaw07.ReachThrough", spec := "reachThrough", unfollowed := true, recurses := true, plainKeys := false, apart := false, narrowed := true }
def ReachThroughUptoSaid : Prop := reachThroughUptoRow.holds Try.pinned (OpenSpec.upto reachThroughSpec)

/-- 'gatehouselaw07.ReachRound', WHERE WHAT IT READS IS OF BULK AT MOST 1048576: true; the input reads as it did. -/
def reachRoundUptoRow : OpenClaim := { program := "ythjldlgmfplngaa", sum := "56c7b2b61da2d8dad83d0e1f7c453af86d448daf8ac88ae9332bb9f21bb09cff", func := "gatehouse/gatehouselaw07.ReachRound", spec := "reachRound", unfollowed := true, recurses := true, plainKeys := false, apart := false, narrowed := true }
def ReachRoundUptoSaid : Prop := reachRoundUptoRow.holds Try.pinned (OpenSpec.upto reachRoundSpec)

end Rows
end Go.Proofs.Ythjldlgmfplngaa

/-
  No cell of these rows narrows 'for every input' (looked for: loops, veiled, ifaces, maps, wideKeys, modest, calm, conditions, laid).
  DERIVED. THE GIVEN ROWS OF THIS SEAT. 7 by the template 'for every input the law returns true; each argument reads behind the call as it read before'; 0 by the template 'total and deterministic' (their statements: YthojgfnaanckeaaTotals.lean).
  GIVEN WITH THE SEED: the statements are not yours to turn. If you find one false, say at which input.
  Laid BY PROGRAM, IN A SANDBOX (cutbox-rows.mjs): the forced cells as the released guide's own fill.sh prints them over the translation 133df7a10c66275e… (all of the seat's roots in one cut). By AI agents, Wed Nov 11 2026. No macro, syntax, notation, axiom, sorry.
-/
import Derived.Test.YthojgfnaanckeaaChecked
import GoSem.Claim
import GoSem.ClaimJoined
import GoSem.ClaimMapViews
import Derived.JoinedTies
import Derived.KernelRfl
namespace Go.Proofs.Ythojgfnaanckeaa
/- THE CELL 'sum', in the pinned program and in every row, IS THE sha256 OF THE DUMP (.gsa) THAT YthojgfnaanckeaaProg.lean LOADS. Nothing in Lean hashes anything: it is a label: what it is worth is what the hold of that sum in a sandbox is worth. -/
noncomputable def Try.pinned : Pinned := { name := "ythojgfnaanckeaa", sum := "133df7a10c66275e3796b3d19601fe11f25b095cd7b4f2da427ea5d3a99336c2", checked := Try.checked }
namespace Rows
def none {H : Type} : Left H := { results := [], args := [] }

/-- 'gatehouselaw19.AvcNew': WHATEVER THE INPUT: true; the input reads as it did. -/
def avcNewSpec : ChangeSpec := { name := "avcNew", fn := fun _ => fun
  | [d1, d2] => { results := [.lit (.bool true)], args := [d1, d2] }
  | _ => none }
def avcNewRow : OpenClaim := { program := "ythojgfnaanckeaa", sum := "133df7a10c66275e3796b3d19601fe11f25b095cd7b4f2da427ea5d3a99336c2", func := "gatehouse/gatehouselaw19.AvcNew", spec := "avcNew", apart := false }
def AvcNewSaid : Prop := avcNewRow.holds Try.pinned (OpenSpec.ofChange avcNewSpec)

/-- ITS FALSE NEIGHBOUR: 'it returns false'. Refute it at one input. -/
def avcNewWrong : ChangeSpec := { name := "avcNew", fn := fun _ => fun
  | [d1, d2] => { results := [.lit (.bool false)], args := [d1, d2] }
  | _ => none }
def AvcNewWrongFalsely : Prop := avcNewRow.holds Try.pinned (OpenSpec.ofChange avcNewWrong)

/-- 'gatehouselaw19.AvcNames': WHATEVER THE INPUT: true; the input reads as it did. -/
def avcNamesSpec : ChangeSpec := { name := "avcNames", fn := fun _ => fun
  | [] => { results := [.lit (.bool true)], args := [] }
  | _ => none }
def avcNamesRow : OpenClaim := { program := "ythojgfnaanckeaa", sum := "133df7a10c66275e3796b3d19601fe11f25b095cd7b4f2da427ea5d3a99336c2", func := "gatehouse/gatehouselaw19.AvcNames", spec := "avcNames", apart := false }
def AvcNamesSaid : Prop := avcNamesRow.holds Try.pinned (OpenSpec.ofChange avcNamesSpec)

/-- ITS FALSE NEIGHBOUR: 'it returns false'. Refute it at one input. -/
def avcNamesWrong : ChangeSpec := { name := "avcNames", fn := fun _ => fun
  | [] => { results := [.lit (.bool false)], args := [] }
  | _ => none }
def AvcNamesWrongFalsely : Prop := avcNamesRow.holds Try.pinned (OpenSpec.ofChange avcNamesWrong)

/-- 'gatehouselaw19.AvcActs': WHATEVER THE INPUT: true; the input reads as it did. -/
def avcActsSpec : ChangeSpec := { name := "avcActs", fn := fun _ => fun
  | [d1, d2, d3, d4] => { results := [.lit (.bool true)], args := [d1, d2, d3, d4] }
  | _ => none }
def avcActsRow : OpenClaim := { program := "ythojgfnaanckeaa", sum := "133df7a10c66275e3796b3d19601fe11f25b095cd7b4f2da427ea5d3a99336c2", func := "gatehouse/gatehouselaw19.AvcActs", spec := "avcActs", apart := false }
def AvcActsSaid : Prop := avcActsRow.holds Try.pinned (OpenSpec.ofChange avcActsSpec)

/-- ITS FALSE NEIGHBOUR: 'it returns false'. Refute it at one input. -/
def avcActsWrong : ChangeSpec := { name := "avcActs", fn := fun _ => fun
  | [d1, d2, d3, d4] => { results := [.lit (.bool false)], args := [d1, d2, d3, d4] }
  | _ => none }
def AvcActsWrongFalsely : Prop := avcActsRow.holds Try.pinned (OpenSpec.ofChange avcActsWrong)

/-- 'gatehouselaw19.AvcTrue': WHATEVER THE INPUT: true; the input reads as it did. -/
def avcTrueSpec : ChangeSpec := { name := "avcTrue", fn := fun _ => fun
  | [d1, d2, d3] => { results := [.lit (.bool true)], args := [d1, d2, d3] }
  | _ => none }
def avcTrueRow : OpenClaim := { program := "ythojgfnaanckeaa", sum := "133df7a10c66275e3796b3d19601fe11f25b095cd7b4f2da427ea5d3a99336c2", func := "gatehouse/gatehouselaw19.AvcTrue", spec := "avcTrue", apart := false }
def AvcTrueSaid : Prop := avcTrueRow.holds Try.pinned (OpenSpec.ofChange avcTrueSpec)

/-- ITS FALSE NEIGHBOUR: 'it returns false'. Refute it at one input. -/
def avcTrueWrong : ChangeSpec := { name := "avcTrue", fn := fun _ => fun
  | [d1, d2, d3] => { results := [.lit (.bool false)], args := [d1, d2, d3] }
  | _ => none }
def AvcTrueWrongFalsely : Prop := avcTrueRow.holds Try.pinned (OpenSpec.ofChange avcTrueWrong)

/-- 'gatehouselaw19.AvcCounts': WHATEVER THE INPUT: true; the input reads as it did. -/
def avcCountsSpec : ChangeSpec := { name := "avcCounts", fn := fun _ => fun
  | [d1, d2, d3] => { results := [.lit (.bool true)], args := [d1, d2, d3] }
  | _ => none }
def avcCountsRow : OpenClaim := { program := "ythojgfnaanckeaa", sum := "133df7a10c66275e3796b3d19601fe11f25b095cd7b4f2da427ea5d3a99336c2", func := "gatehouse/gatehouselaw19.AvcCounts", spec := "avcCounts", apart := false }
def AvcCountsSaid : Prop := avcCountsRow.holds Try.pinned (OpenSpec.ofChange avcCountsSpec)

/-- ITS FALSE NEIGHBOUR: 'it returns false'. Refute it at one input. -/
def avcCountsWrong : ChangeSpec := { name := "avcCounts", fn := fun _ => fun
  | [d1, d2, d3] => { results := [.lit (.bool false)], args := [d1, d2, d3] }
  | _ => none }
def AvcCountsWrongFalsely : Prop := avcCountsRow.holds Try.pinned (OpenSpec.ofChange avcCountsWrong)

/-- 'gatehouselaw19.AvcRoom': WHATEVER THE INPUT: true; the input reads as it did. -/
def avcRoomSpec : ChangeSpec := { name := "avcRoom", fn := fun _ => fun
  | [d1, d2, d3, d4, d5] => { results := [.lit (.bool true)], args := [d1, d2, d3, d4, d5] }
  | _ => none }
def avcRoomRow : OpenClaim := { program := "ythojgfnaanckeaa", sum := "133df7a10c66275e3796b3d19601fe11f25b095cd7b4f2da427ea5d3a99336c2", func := "gatehouse/gatehouselaw19.AvcRoom", spec := "avcRoom", apart := false }
def AvcRoomSaid : Prop := avcRoomRow.holds Try.pinned (OpenSpec.ofChange avcRoomSpec)

/-- ITS FALSE NEIGHBOUR: 'it returns false'. Refute it at one input. -/
def avcRoomWrong : ChangeSpec := { name := "avcRoom", fn := fun _ => fun
  | [d1, d2, d3, d4, d5] => { results := [.lit (.bool false)], args := [d1, d2, d3, d4, d5] }
  | _ => none }
def AvcRoomWrongFalsely : Prop := avcRoomRow.holds Try.pinned (OpenSpec.ofChange avcRoomWrong)

/-- 'gatehouselaw19.AvcChance': WHATEVER THE INPUT: true; the input reads as it did. -/
def avcChanceSpec : ChangeSpec := { name := "avcChance", fn := fun _ => fun
  | [d1, d2, d3] => { results := [.lit (.bool true)], args := [d1, d2, d3] }
  | _ => none }
def avcChanceRow : OpenClaim := { program := "ythojgfnaanckeaa", sum := "133df7a10c66275e3796b3d19601fe11f25b095cd7b4f2da427ea5d3a99336c2", func := "gatehouse/gatehouselaw19.AvcChance", spec := "avcChance", apart := false }
def AvcChanceSaid : Prop := avcChanceRow.holds Try.pinned (OpenSpec.ofChange avcChanceSpec)

/-- ITS FALSE NEIGHBOUR: 'it returns false'. Refute it at one input. -/
def avcChanceWrong : ChangeSpec := { name := "avcChance", fn := fun _ => fun
  | [d1, d2, d3] => { results := [.lit (.bool false)], args := [d1, d2, d3] }
  | _ => none }
def AvcChanceWrongFalsely : Prop := avcChanceRow.holds Try.pinned (OpenSpec.ofChange avcChanceWrong)

/- THE SECOND FORM. 'bulk': how many values and letters a reading holds, each counted each time it is reached (what is shared counts as often as it is met; a slice's spare places count too). A statement '..UptoSaid' is the law's where the arguments, and the package variables that the reading takes, are together of bulk at most 1048576: NARROWER than '..Said'. Prove '..Said' where nothing that the law and all that it calls make is longer than what came in: it says more and counts as full. Else prove '..UptoSaid'. A law counts once. -/
mutual
def uptoBulk {H : Type} : DataW H → Nat
  | .lit (.string bytes) => bytes.length + 1
  | .lit _ => 1
  | .nil => 1
  | .ptr d => uptoBulk d + 1
  | .slice elems spare => uptoBulkAll elems + uptoBulkAll spare + 1
  | .agg parts => uptoBulkAll parts + 1
  | .iface _ d => uptoBulk d + 1
  | .map entries => uptoBulkEntries entries + 1
  | .held _ => 1
def uptoBulkAll {H : Type} : List (DataW H) → Nat
  | [] => 0
  | d :: r => uptoBulk d + uptoBulkAll r
def uptoBulkEntries {H : Type} : List (Lit × DataW H) → Nat
  | [] => 0
  | x :: r => uptoBulkEntry x + uptoBulkEntries r
def uptoBulkEntry {H : Type} : Lit × DataW H → Nat
  | (.string bytes, d) => bytes.length + uptoBulk d + 1
  | (_, d) => uptoBulk d + 1
 end
def uptoSmall : (H : Type) → List (DataW H) → Bool := fun _ ds => decide (uptoBulkAll ds ≤ 1048576)
def OpenSpec.upto (s : _root_.Go.ChangeSpec) : _root_.Go.OpenSpec := { _root_.Go.OpenSpec.ofChange s with cond := some uptoSmall }

/-- 'gatehouselaw19.AvcNew', WHERE WHAT IT READS IS OF BULK AT MOST 1048576: true; the input reads as it did. -/
def avcNewUptoRow : OpenClaim := { program := "ythojgfnaanckeaa", sum := "133df7a10c66275e3796b3d19601fe11f25b095cd7b4f2da427ea5d3a99336c2", func := "gatehouse/gatehouselaw19.AvcNew", spec := "avcNew", apart := false, narrowed := true }
def AvcNewUptoSaid : Prop := avcNewUptoRow.holds Try.pinned (OpenSpec.upto avcNewSpec)

/-- 'gatehouselaw19.AvcNames', WHERE WHAT IT READS IS OF BULK AT MOST 1048576: true; the input reads as it did. -/
def avcNamesUptoRow : OpenClaim := { program := "ythojgfnaanckeaa", sum := "133df7a10c66275e3796b3d19601fe11f25b095cd7b4f2da427ea5d3a99336c2", func := "gatehouse/gatehouselaw19.AvcNames", spec := "avcNames", apart := false, narrowed := true }
def AvcNamesUptoSaid : Prop := avcNamesUptoRow.holds Try.pinned (OpenSpec.upto avcNamesSpec)

/-- 'gatehouselaw19.AvcActs', WHERE WHAT IT READS IS OF BULK AT MOST 1048576: true; the input reads as it did. -/
def avcActsUptoRow : OpenClaim := { program := "ythojgfnaanckeaa", sum := "133df7a10c66275e3796b3d19601fe11f25b095cd7b4f2da427ea5d3a99336c2", func := "gatehouse/gatehouselaw19.AvcActs", spec := "avcActs", apart := false, narrowed := true }
def AvcActsUptoSaid : Prop := avcActsUptoRow.holds Try.pinned (OpenSpec.upto avcActsSpec)

/-- 'gatehouselaw19.AvcTrue', WHERE WHAT IT READS IS OF BULK AT MOST 1048576: true; the input reads as it did. -/
def avcTrueUptoRow : OpenClaim := { program := "ythojgfnaanckeaa", sum := "133df7a10c66275e3796b3d19601fe11f25b095cd7b4f2da427ea5d3a99336c2", func := "gatehouse/gatehouselaw19.AvcTrue", spec := "avcTrue", apart := false, narrowed := true }
def AvcTrueUptoSaid : Prop := avcTrueUptoRow.holds Try.pinned (OpenSpec.upto avcTrueSpec)

/-- 'gatehouselaw19.AvcCounts', WHERE WHAT IT READS IS OF BULK AT MOST 1048576: true; the input reads as it did. -/
def avcCountsUptoRow : OpenClaim := { program := "ythojgfnaanckeaa", sum := "133df7a10c66275e3796b3d19601fe11f25b095cd7b4f2da427ea5d3a99336c2", func := "gatehouse/gatehouselaw19.AvcCounts", spec := "avcCounts", apart := false, narrowed := true }
def AvcCountsUptoSaid : Prop := avcCountsUptoRow.holds Try.pinned (OpenSpec.upto avcCountsSpec)

/-- 'gatehouselaw19.AvcRoom', WHERE WHAT IT READS IS OF BULK AT MOST 1048576: true; the input reads as it did. -/
def avcRoomUptoRow : OpenClaim := { program := "ythojgfnaanckeaa", sum := "133df7a10c66275e3796b3d19601fe11f25b095cd7b4f2da427ea5d3a99336c2", func := "gatehouse/gatehouselaw19.AvcRoom", spec := "avcRoom", apart := false, narrowed := true }
def AvcRoomUptoSaid : Prop := avcRoomUptoRow.holds Try.pinned (OpenSpec.upto avcRoomSpec)

/-- 'gatehouselaw19.AvcChance', WHERE WHAT IT READS IS OF BULK AT MOST 1048576: true; the input reads as it did. -/
def avcChanceUptoRow : OpenClaim := { program := "ythojgfnaanckeaa", sum := "133df7a10c66275e3796b3d19601fe11f25b095cd7b4f2da427ea5d3a99336c2", func := "gatehouse/gatehouselaw19.AvcChance", spec := "avcChance", apart := false, narrowed := true }
def AvcChanceUptoSaid : Prop := avcChanceUptoRow.holds Try.pinned (OpenSpec.upto avcChanceSpec)

end Rows
end Go.Proofs.Ythojgfnaanckeaa

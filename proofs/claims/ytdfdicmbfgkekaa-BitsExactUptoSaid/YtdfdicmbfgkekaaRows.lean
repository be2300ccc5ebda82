/-
  No cell of these rows narrows 'for every input' (looked for: loops, veiled, ifaces, maps, wideKeys, modest, calm, conditions, laid).
  DERIVED. THE GIVEN ROWS OF THIS SEAT. 5 by the template 'for every input the law returns true; each argument reads behind the call as it read before'; 0 by the template 'total and deterministic' (their statements: YtdfdicmbfgkekaaTotals.lean).
  GIVEN WITH THE SEED: the statements are not yours to turn. If you find one false, say at which input.
  Laid BY PROGRAM, IN A SANDBOX (cutbox-rows.mjs): the forced cells as the released guide's own fill.sh prints them over the translation 9a58e18f8ca43211… (all of the seat's roots in one cut). By AI agents, Wed Nov 11 2026. No macro, syntax, notation, axiom, sorry.
-/
import Derived.Test.YtdfdicmbfgkekaaChecked
import GoSem.Claim
import GoSem.ClaimJoined
import GoSem.ClaimMapViews
import Derived.JoinedTies
import Derived.KernelRfl
namespace Go.Proofs.Ytdfdicmbfgkekaa
/- THE CELL 'sum', in the pinned program and in every row, IS THE sha256 OF THE DUMP (.gsa) THAT YtdfdicmbfgkekaaProg.lean LOADS. Nothing in Lean hashes anything: it is a label: what it is worth is what the hold of that sum in a sandbox is worth. -/
noncomputable def Try.pinned : Pinned := { name := "ytdfdicmbfgkekaa", sum := "9a58e18f8ca432115eec260edf37ac0aa815acfd0be6c81ef9d7fea220464abb", checked := Try.checked }
namespace Rows
def none {H : Type} : Left H := { results := [], args := [] }

/-- 'gatehouselaw03.BitsOne': WHATEVER THE INPUT: true; the input reads as it did. -/
def bitsOneSpec : ChangeSpec := { name := "bitsOne", fn := fun _ => fun
  | [d1, d2, d3, d4] => { results := [.lit (.bool true)], args := [d1, d2, d3, d4] }
  | _ => none }
def bitsOneRow : OpenClaim := { program := "ytdfdicmbfgkekaa", sum := "9a58e18f8ca432115eec260edf37ac0aa815acfd0be6c81ef9d7fea220464abb", func := "gatehouse/gatehouselaw03.BitsOne", spec := "bitsOne", apart := false }
def BitsOneSaid : Prop := bitsOneRow.holds Try.pinned (OpenSpec.ofChange bitsOneSpec)

/-- ITS FALSE NEIGHBOUR: 'it returns false'. Refute it at one input. -/
def bitsOneWrong : ChangeSpec := { name := "bitsOne", fn := fun _ => fun
  | [d1, d2, d3, d4] => { results := [.lit (.bool false)], args := [d1, d2, d3, d4] }
  | _ => none }
def BitsOneWrongFalsely : Prop := bitsOneRow.holds Try.pinned (OpenSpec.ofChange bitsOneWrong)

/-- 'gatehouselaw03.BitsAlgebra': WHATEVER THE INPUT: true; the input reads as it did. -/
def bitsAlgebraSpec : ChangeSpec := { name := "bitsAlgebra", fn := fun _ => fun
  | [d1, d2, d3] => { results := [.lit (.bool true)], args := [d1, d2, d3] }
  | _ => none }
def bitsAlgebraRow : OpenClaim := { program := "ytdfdicmbfgkekaa", sum := "9a58e18f8ca432115eec260edf37ac0aa815acfd0be6c81ef9d7fea220464abb", func := "gatehouse/gatehouselaw03.BitsAlgebra", spec := "bitsAlgebra", unfollowed := true, recurses := true, apart := false }
def BitsAlgebraSaid : Prop := bitsAlgebraRow.holds Try.pinned (OpenSpec.ofChange bitsAlgebraSpec)

/-- ITS FALSE NEIGHBOUR: 'it returns false'. Refute it at one input. -/
def bitsAlgebraWrong : ChangeSpec := { name := "bitsAlgebra", fn := fun _ => fun
  | [d1, d2, d3] => { results := [.lit (.bool false)], args := [d1, d2, d3] }
  | _ => none }
def BitsAlgebraWrongFalsely : Prop := bitsAlgebraRow.holds Try.pinned (OpenSpec.ofChange bitsAlgebraWrong)

/-- 'gatehouselaw03.BitsMasks': WHATEVER THE INPUT: true; the input reads as it did. -/
def bitsMasksSpec : ChangeSpec := { name := "bitsMasks", fn := fun _ => fun
  | [d1, d2, d3] => { results := [.lit (.bool true)], args := [d1, d2, d3] }
  | _ => none }
def bitsMasksRow : OpenClaim := { program := "ytdfdicmbfgkekaa", sum := "9a58e18f8ca432115eec260edf37ac0aa815acfd0be6c81ef9d7fea220464abb", func := "gatehouse/gatehouselaw03.BitsMasks", spec := "bitsMasks", apart := false }
def BitsMasksSaid : Prop := bitsMasksRow.holds Try.pinned (OpenSpec.ofChange bitsMasksSpec)

/-- ITS FALSE NEIGHBOUR: 'it returns false'. Refute it at one input. -/
def bitsMasksWrong : ChangeSpec := { name := "bitsMasks", fn := fun _ => fun
  | [d1, d2, d3] => { results := [.lit (.bool false)], args := [d1, d2, d3] }
  | _ => none }
def BitsMasksWrongFalsely : Prop := bitsMasksRow.holds Try.pinned (OpenSpec.ofChange bitsMasksWrong)

/-- 'gatehouselaw03.BitsExact': WHATEVER THE INPUT: true; the input reads as it did. -/
def bitsExactSpec : ChangeSpec := { name := "bitsExact", fn := fun _ => fun
  | [d1, d2] => { results := [.lit (.bool true)], args := [d1, d2] }
  | _ => none }
def bitsExactRow : OpenClaim := { program := "ytdfdicmbfgkekaa", sum := "9a58e18f8ca432115eec260edf37ac0aa815acfd0be6c81ef9d7fea220464abb", func := "gatehouse/gatehouselaw03.BitsExact", spec := "bitsExact", unfollowed := true, recurses := true, apart := false }
def BitsExactSaid : Prop := bitsExactRow.holds Try.pinned (OpenSpec.ofChange bitsExactSpec)

/-- ITS FALSE NEIGHBOUR: 'it returns false'. Refute it at one input. -/
def bitsExactWrong : ChangeSpec := { name := "bitsExact", fn := fun _ => fun
  | [d1, d2] => { results := [.lit (.bool false)], args := [d1, d2] }
  | _ => none }
def BitsExactWrongFalsely : Prop := bitsExactRow.holds Try.pinned (OpenSpec.ofChange bitsExactWrong)

/-- 'gatehouselaw03.BitsBack': WHATEVER THE INPUT: true; the input reads as it did. -/
def bitsBackSpec : ChangeSpec := { name := "bitsBack", fn := fun _ => fun
  | [d1, d2, d3] => { results := [.lit (.bool true)], args := [d1, d2, d3] }
  | _ => none }
def bitsBackRow : OpenClaim := { program := "ytdfdicmbfgkekaa", sum := "9a58e18f8ca432115eec260edf37ac0aa815acfd0be6c81ef9d7fea220464abb", func := "gatehouse/gatehouselaw03.BitsBack", spec := "bitsBack", apart := false }
def BitsBackSaid : Prop := bitsBackRow.holds Try.pinned (OpenSpec.ofChange bitsBackSpec)

/-- ITS FALSE NEIGHBOUR: 'it returns false'. Refute it at one input. -/
def bitsBackWrong : ChangeSpec := { name := "bitsBack", fn := fun _ => fun
  | [d1, d2, d3] => { results := [.lit (.bool false)], args := [d1, d2, d3] }
  | _ => none }
def BitsBackWrongFalsely : Prop := bitsBackRow.holds Try.pinned (OpenSpec.ofChange bitsBackWrong)

/- THE SECOND FORM. 'bulk': how many values and letters a reading holds, each counted each time it is reached (what is shared counts as often as it is met; a slice's spare places count too). A statement '..UptoSaid' is the law's where the arguments, and the package variables that the reading takes, are together of bulk at most 1048576: NARROWER than '..Said'. Prove '..Said' where nothing that the law and all that it calls make is longer than what came in: it says more and counts as full. Else prove '..UptoSaid'. A law counts once. -/
mutual
def uptoBulk {H : Type} : DataW H → Nat
  | .lit (.string bytes) => bytes.length + 1
  | .lit _ => 1
  | .nil => 1
  | .ptr d => uptoBulk d + 1
  | .slice elems spare => uptoBulkAll elems + uptoBulkAll spare + 1
  | .agg parts => uptoBulkAll parts + 1
  | .iface _ d => uptoBulk d + 1
  | .map entries => uptoBulkEntries entries + 1
  | .held _ => 1
def uptoBulkAll {H : Type} : List (DataW H) → Nat
  | [] => 0
  | d :: r => uptoBulk d + uptoBulkAll r
def uptoBulkEntries {H : Type} : List (Lit × DataW H) → Nat
  | [] => 0
  | x :: r => uptoBulkEntry x + uptoBulkEntries r
def uptoBulkEntry {H : Type} : Lit × DataW H → Nat
  | (.string bytes, d) => bytes.length + uptoBulk d + 1
  | (_, d) => uptoBulk d + 1
 end
def uptoSmall : (H : Type) → List (DataW H) → Bool := fun _ ds => decide (uptoBulkAll ds ≤ 1048576)
def OpenSpec.upto (s : _root_.Go.ChangeSpec) : _root_.Go.OpenSpec := { _root_.Go.OpenSpec.ofChange s with cond := some uptoSmall }

/-- 'gatehouselaw03.BitsOne', WHERE WHAT IT READS IS OF BULK AT MOST 1048576: true; the input reads as it did. -/
def bitsOneUptoRow : OpenClaim := { program := "ytdfdicmbfgkekaa", sum := "9a58e18f8ca432115eec260edf37ac0aa815acfd0be6c81ef9d7fea220464abb", func := "gatehouse/gatehouselaw03.BitsOne", spec := "bitsOne", apart := false, narrowed := true }
def BitsOneUptoSaid : Prop := bitsOneUptoRow.holds Try.pinned (OpenSpec.upto bitsOneSpec)

/-- 'gatehouselaw03.BitsAlgebra', WHERE WHAT IT READS IS OF BULK AT MOST 1048576: true; the input reads as it did. -/
def bitsAlgebraUptoRow : OpenClaim := { program := "ytdfdicmbfgkekaa", sum := "9a58e18f8ca432115eec260edf37ac0aa815acfd0be6c81ef9d7fea220464abb", func := "gatehouse/gatehouselaw03.BitsAlgebra", spec := "bitsAlgebra", unfollowed := true, recurses := true, apart := false, narrowed := true }
def BitsAlgebraUptoSaid : Prop := bitsAlgebraUptoRow.holds Try.pinned (OpenSpec.upto bitsAlgebraSpec)

/-- 'gatehouselaw03.BitsMasks', WHERE WHAT IT READS IS OF BULK AT MOST 1048576: true; the input reads as it did. -/
def bitsMasksUptoRow : OpenClaim := { program := "ytdfdicmbfgkekaa", sum := "9a58e18f8ca432115eec260edf37ac0aa815acfd0be6c81ef9d7fea220464abb", func := "gatehouse/gatehouselaw03.BitsMasks", spec := "bitsMasks", apart := false, narrowed := true }
def BitsMasksUptoSaid : Prop := bitsMasksUptoRow.holds Try.pinned (OpenSpec.upto bitsMasksSpec)

/-- 'gatehouselaw03.BitsExact', WHERE WHAT IT READS IS OF BULK AT MOST 1048576: true; the input reads as it did. -/
def bitsExactUptoRow : OpenClaim := { program := "ytdfdicmbfgkekaa", sum := "9a58e18f8ca432115eec260edf37ac0aa815acfd0be6c81ef9d7fea220464abb", func := "gatehouse/gatehouselaw03.BitsExact", spec := "bitsExact", unfollowed := true, recurses := true, apart := false, narrowed := true }
def BitsExactUptoSaid : Prop := bitsExactUptoRow.holds Try.pinned (OpenSpec.upto bitsExactSpec)

/-- 'gatehouselaw03.BitsBack', WHERE WHAT IT READS IS OF BULK AT MOST 1048576: true; the input reads as it did. -/
def bitsBackUptoRow : OpenClaim := { program := "ytdfdicmbfgkekaa", sum := "9a58e18f8ca432115eec260edf37ac0aa815acfd0be6c81ef9d7fea220464abb", func := "gatehouse/gatehouselaw03.BitsBack", spec := "bitsBack", apart := false, narrowed := true }
def BitsBackUptoSaid : Prop := bitsBackUptoRow.holds Try.pinned (OpenSpec.upto bitsBackSpec)

end Rows
end Go.Proofs.Ytdfdicmbfgkekaa

/- Arrays of two names compared. -/
import Derived.Test.YthjldlgmfplngaaKd
import Derived.Laws.StructEq
namespace Go.Proofs.Ythjldlgmfplngaa
open Go.RowKit Go.Mm Go.Maps Go.Reach Go.WideMaps
theorem size9 (w : World) : (sizeOf 9).run Try.prog w = .ok 1 w := by kernel_rfl
theorem part9_0 (a b : Value) (w : World) : (part 9 #[a, b] 0).run Try.prog w = .ok a w := by kernel_rfl
theorem part9_1 (a b : Value) (w : World) : (part 9 #[a, b] 1).run Try.prog w = .ok b w := by kernel_rfl
theorem eq9 (d : Nat) (a : ByteArray) (w : World) : (Op.equalIn (d + 1) 9 (.string a) (.string a)).run Try.prog w = .ok true w := by
  simp [Op.equalIn, run_underlying Try.underlying9, beq_toListBytes]
theorem eq42 (d : Nat) (a b : ByteArray) (w : World) : (Op.equalIn (d + 1 + 1) 42 (.agg #[.string a, .string b]) (.agg #[.string a, .string b])).run Try.prog w = .ok true w := by
  unfold Op.equalIn
  simp only [Sem.run_bind, run_underlying Try.underlying42, Result.andThen_ok, size9, Std.Legacy.Range.forIn_eq_forIn_range']
  simp [List.range', Std.Legacy.Range.size, eq9, part9_0, part9_1]
theorem neq42 (a b : ByteArray) (w : World) : (binOp .neq 42 (.agg #[.string a, .string b]) (.agg #[.string a, .string b])).run Try.prog w = .ok (.bool false) w := by
  unfold binOp
  simp only [Op.equal, Sem.run_bind, show Op.maxDepth = 9998 + 1 + 1 from rfl, eq42, Result.andThen_ok]
  rfl
end Go.Proofs.Ythjldlgmfplngaa

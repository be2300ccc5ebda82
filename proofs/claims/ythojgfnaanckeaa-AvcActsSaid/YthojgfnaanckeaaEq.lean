/- Equality of places and of triples. -/
import Derived.Test.YthojgfnaanckeaaNew
import Derived.ChangeKeysEq
import Derived.Laws.StructEq
import Derived.Laws.Small
namespace Go.Proofs.Ythojgfnaanckeaa
open Go.RowKit Go.Mm
theorem run_equalIn_int (d : Nat) (t : TypeId) (k : IntKind) (a b : Int) (w : World) (h : Try.prog.underlying t = some (.int k)) : (Op.equalIn (d + 1) t (.int k a) (.int k b)).run Try.prog w = .ok (a == b) w := by
  simp [Op.equalIn, run_underlying h]
theorem eq69 (d : Nat) (ps po pa s o a : Int) (W : World) : (Op.equalIn (d + 2) 69 (.agg #[.int .i64 ps, .int .i64 po, .int .i64 pa]) (.agg #[.int .i64 s, .int .i64 o, .int .i64 a])).run Try.prog W = .ok (ps == s && (po == o && pa == a)) W := by
  obtain ⟨i, hi, hzz⟩ := Option.map_eq_some_iff.1 info3
  simp only [Prod.mk.injEq] at hzz
  have hc : Try.prog.cellsOf 3 = 1 := by kernel_rfl
  rw [run_equalIn_array W (d + 1) _ _ Try.underlying69 hi, hc]
  simp [Op.eqItems, List.range, List.range.loop, part, run_sizeOf, hi, run_equalIn_int _ 3 .i64 _ _ _ Try.underlying3]
  by_cases h1 : ps = s <;> by_cases h2 : po = o <;> by_cases h3 : pa = a <;> simp [h1, h2, h3]
theorem eq69' (ps po pa s o a : Int) (r : Bool) (h : (ps == s && (po == o && pa == a)) = r) (W : World) : (Op.equalIn 10000 69 (.agg #[.int .i64 ps, .int .i64 po, .int .i64 pa]) (.agg #[.int .i64 s, .int .i64 o, .int .i64 a])).run Try.prog W = .ok r W := by
  rw [← h]; exact eq69 9998 ps po pa s o a W
theorem info69 : (Try.prog.info? 69).map (fun i => (i.zero, i.size, i.bytes)) = some (some (.agg #[.int .i64 0, .int .i64 0, .int .i64 0]), 3, 24) := by kernel_rfl
theorem info4 : (Try.prog.info? 4).map (fun i => (i.zero, i.size, i.bytes)) = some (some (.bool false), 1, 1) := by kernel_rfl
theorem eq74 (d : Nat) (p q : Pl) (W : World) : (Op.equalIn (d + 3) 74 (.agg (fP p).toArray) (.agg (fP q).toArray)).run Try.prog W = .ok (p.held == q.held && ((p.s == q.s && (p.o == q.o && p.a == q.a)) && (p.tag == q.tag && (p.allowed == q.allowed && p.marked == q.marked)))) W := by
  obtain ⟨i3, hi3, z3⟩ := Option.map_eq_some_iff.1 info3
  obtain ⟨i4, hi4, z4⟩ := Option.map_eq_some_iff.1 info4
  obtain ⟨i69, hi69, z69⟩ := Option.map_eq_some_iff.1 info69
  simp only [Prod.mk.injEq] at z3 z4 z69
  rw [run_equalIn_struct W (d + 2) 74 _ _ (by kernel_rfl) (by kernel_rfl)]
  have hf : Try.prog.fieldsOf 74 = (match Try.prog.underlying 74 with | some (.struct fs) => fs | _ => #[]) := rfl
  rw [hf, Try.underlying74]
  have hc : Try.prog.cellsOf 69 = 3 := by kernel_rfl
  simp [Op.eqFields, fP, part, run_sizeOf, hi3, hi4, hi69, hc, run_equalIn_int _ 3 .i64 _ _ _ Try.underlying3, run_equalIn_bool _ _ 4 _ _ Try.underlying4, eq69]
  by_cases h0 : p.held = q.held <;> by_cases h1 : p.s = q.s <;> by_cases h2 : p.o = q.o <;> by_cases h3 : p.a = q.a <;> by_cases h4 : p.tag = q.tag <;> by_cases h5 : p.allowed = q.allowed <;> by_cases h6 : p.marked = q.marked <;> simp [h0, h1, h2, h3, h4, h5, h6]
theorem eq74' (p q : Pl) (r : Bool) (h : (p.held == q.held && ((p.s == q.s && (p.o == q.o && p.a == q.a)) && (p.tag == q.tag && (p.allowed == q.allowed && p.marked == q.marked)))) = r) (W : World) :
    (Op.equalIn 10000 74 (.agg #[.bool p.held, .int .i64 p.s, .int .i64 p.o, .int .i64 p.a, .int .i64 p.tag, .bool p.allowed, .bool p.marked]) (.agg #[.bool q.held, .int .i64 q.s, .int .i64 q.o, .int .i64 q.a, .int .i64 q.tag, .bool q.allowed, .bool q.marked])).run Try.prog W = .ok r W := by
  rw [← h]; exact eq74 9997 p q W
end Go.Proofs.Ythojgfnaanckeaa

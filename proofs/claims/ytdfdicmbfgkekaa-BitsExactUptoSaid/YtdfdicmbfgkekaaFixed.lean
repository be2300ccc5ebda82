/- Walks: what the document says of a small set; a set made; what it tells. -/
import Derived.Test.YtdfdicmbfgkekaaQuad
import Derived.Laws.StructEq
import Derived.Laws.Small
import Derived.ChangeKeysEq
namespace Go.Proofs.Ytdfdicmbfgkekaa
open Go.RowKit Go.Mm Go.Bs
theorem run_equalIn_int (d : Nat) (t : TypeId) (k : IntKind) (a b : Int) (w : World) (h : Try.prog.underlying t = some (.int k)) : (Op.equalIn (d + 1) t (.int k a) (.int k b)).run Try.prog w = .ok (a == b) w := by
  simp [Op.equalIn, run_underlying h]
theorem eq64 (d : Nat) (a b c e a' b' c' e' : Int) (W : World) : (Op.equalIn (d + 2) 64 (.agg #[.int .u64 a, .int .u64 b, .int .u64 c, .int .u64 e]) (.agg #[.int .u64 a', .int .u64 b', .int .u64 c', .int .u64 e'])).run Try.prog W = .ok (a == a' && (b == b' && (c == c' && e == e'))) W := by
  obtain ⟨i, hi, hzz⟩ := Option.map_eq_some_iff.1 info63
  simp only [Prod.mk.injEq] at hzz
  have hc : Try.prog.cellsOf 63 = 1 := by kernel_rfl
  rw [run_equalIn_array W (d + 1) _ _ Try.underlying64 hi, hc]
  simp [Op.eqItems, List.range, List.range.loop, part, run_sizeOf, hi, run_equalIn_int _ 63 .u64 _ _ _ Try.underlying63]
  by_cases h1 : a = a' <;> by_cases h2 : b = b' <;> by_cases h3 : c = c' <;> by_cases h4 : e = e' <;> simp [h1, h2, h3, h4]
/-- four words are four words -/
theorem eq64_four (S : Nat → Bool) (k : Nat) (a b c d : Int) (r : Bool) (h : ((((word S (4 * k) : Nat) : Int) == a) && ((((word S (4 * k + 1) : Nat) : Int) == b) && ((((word S (4 * k + 2) : Nat) : Int) == c) && (((word S (4 * k + 3) : Nat) : Int) == d)))) = r) (W : World) :
    (Op.equalIn 10000 64 (.agg #[.int .u64 ((word S (4 * k) : Nat) : Int), .int .u64 ((word S (4 * k + 1) : Nat) : Int), .int .u64 ((word S (4 * k + 2) : Nat) : Int), .int .u64 ((word S (4 * k + 3) : Nat) : Int)]) (.agg #[.int .u64 a, .int .u64 b, .int .u64 c, .int .u64 d])).run Try.prog W = .ok r W := by
  rw [← h]; exact eq64 9998 _ _ _ _ _ _ _ _ W
def one69 : Nat → Bool := ins none0 69
theorem one69_words : word one69 0 = 0 ∧ word one69 1 = 32 ∧ word one69 2 = 0 ∧ word one69 3 = 0 := by
  unfold one69 word; decide
theorem one69_cnt : cnt one69 70 = 1 := by unfold one69; decide
set_option maxRecDepth 100000 in
set_option maxHeartbeats 2000000 in
theorem fixed_any (w : World) : Calls Try.prog 8 #[] w fun e w' => e = .returned (.bool true) ∧ Below w.heap.size w w' := by
  have hq := eq64_four one69 0 0 32 0 0 true (by obtain ⟨h0, h1, h2, h3⟩ := one69_words; simp only [Nat.mul_zero, Nat.zero_add]; rw [h0, h1, h2, h3]; decide)
  obtain ⟨z0, z1, z2, z3⟩ := one69_words
  simp only [Nat.mul_zero, Nat.zero_add, z0, z1, z2, z3] at hq
  have HQ := Mm.hid hq
  have Q0 : Hid (quadV 70 one69 0 = .tuple #[.agg #[.int .u64 0, .int .u64 32, .int .u64 0, .int .u64 0], .bool true]) := by
    show _ = _
    unfold quadV
    rw [if_pos (by decide)]
    unfold four wv
    simp only [Int.toNat_zero, Nat.mul_zero, Nat.zero_add, z0, z1, z2, z3]; rfl
  have R0 : Hid (roomOf 70 = 70) := by show _ = _; decide
  have A1 : Hid (addS 70 none0 69 = one69 ∧ addB 70 none0 69 = true) := ⟨rfl, rfl⟩
  have A2 : Hid (addS 70 one69 70 = one69 ∧ addB 70 one69 70 = false) := ⟨rfl, rfl⟩
  have HH : Hid (hasB 70 one69 69 = true) := by show _ = _; decide
  have HC := Mm.hid one69_cnt
  clear hq z0 z1 z2 z3
  go_enter Try.func8, Try.ntmps8
  go_wp2_with fail
  refine (new_any 70 _ (by decide) (by decide)).mono ?_
  rintro e w1 ⟨a, g, rfl, H1⟩
  rw [R0.out] at H1
  go_wp2_with fail
  refine (add_any a g 70 none0 69 _ H1.out.1).mono ?_
  rintro e w2 ⟨rfl, s2, f2, -⟩
  rw [A1.out.1] at s2
  rw [A1.out.2]
  have H2 := Mm.hid (And.intro s2 f2)
  clear s2 f2
  go_wp2_with fail
  refine (add_any a g 70 one69 70 _ H2.out.1).mono ?_
  rintro e w3 ⟨rfl, s2, f2, -⟩
  rw [A2.out.1] at s2
  rw [A2.out.2]
  have H3 := Mm.hid (And.intro s2 f2)
  clear s2 f2
  go_wp2_with fail
  refine (quad_any a g 70 one69 0 _ H3.out.1).mono ?_
  rintro e w4 ⟨rfl, b4⟩
  rw [Q0.out]
  have B4 : Hid (Below w.heap.size w w4) := by
    have b := H1.out.2.1
    have hg := H1.out.2.2.2
    have hs1 := b.size
    have hs2 := H2.out.2.size
    have hs3 := H3.out.2.size
    exact Mm.hid (((b.trans (H2.out.2.below (fun k (e : k = g) => e ▸ hg) hs1)).trans (H3.out.2.below (fun k (e : k = g) => e ▸ hg) (by omega))).trans (b4.mono (by omega)))
  have S4 := Mm.hid (H3.out.1.below b4)
  clear b4
  have hq : ∀ W, (Op.equalIn 10000 64 (.agg #[.int .u64 0, .int .u64 32, .int .u64 0, .int .u64 0]) (.agg #[.int .u64 0, .int .u64 32, .int .u64 0, .int .u64 0])).run Try.prog W = .ok true W := HQ.out
  have B5 := Mm.hid (B4.out.alloc B4.out.size (.cells #[.int .u64 0, .int .u64 32, .int .u64 0, .int .u64 0] 64))
  have S5 := Mm.hid (S4.out.below ((Below.refl _ _).alloc (Nat.le_refl _) (.cells #[.int .u64 0, .int .u64 32, .int .u64 0, .int .u64 0] 64)))
  go_wp2_with fail
  refine (has_any a g 70 one69 69 _ S5.out).mono ?_
  rintro e w' ⟨rfl, rfl⟩
  rw [HH.out]
  go_wp2_with fail
  refine (count_any a g 70 one69 _ S5.out).mono ?_
  rintro e w' ⟨rfl, rfl⟩
  rw [HC.out]
  go_wp2
  go_ret
  exact ⟨rfl, B5.out⟩
end Go.Proofs.Ytdfdicmbfgkekaa

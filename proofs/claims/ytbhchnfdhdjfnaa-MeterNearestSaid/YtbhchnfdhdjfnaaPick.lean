/- Walks: pick; and small words: a number's bounds, the end of a walk. -/
import Derived.Test.YtbhchnfdhdjfnaaRows
import Derived.Test.YtbhchnfdhdjfnaaMm
namespace Go.Proofs.Ytbhchnfdhdjfnaa
open Go.RowKit Go.Mm
theorem ret_int {k : IntKind} {a b : Int} (h : a = b) : Ending.returned (.int k a) = .returned (.int k b) := by rw [h]
theorem wf64 {x : Int} (h : (Lit.int .i64 x).wf = true) : -9223372036854775808 ≤ x ∧ x ≤ 9223372036854775807 := by
  simpa [Lit.wf, IntKind.min, IntKind.max, IntKind.signed, IntKind.bits] using h
theorem tmod_fix (k n : Int) (hn : 1 ≤ n) : (k.tmod n < 0 → k.tmod n + n = k % n) ∧ (0 ≤ k.tmod n → k.tmod n = k % n) := by
  have hb1 := Int.emod_nonneg k (show n ≠ 0 by omega)
  have hb2 := Int.emod_lt_of_pos k (show 0 < n by omega)
  have e := @Int.tmod_eq_emod k n
  by_cases h : 0 ≤ k ∨ n ∣ k
  · rw [if_pos h] at e; omega
  · rw [if_neg h] at e; omega
theorem pick_any (k n : Int) (w : World) (h1 : 1 ≤ n) (h2 : n ≤ 9223372036854775807) (h3 : -9223372036854775808 ≤ k) (h4 : k ≤ 9223372036854775807) :
    Calls Try.prog 27 #[.int .i64 k, .int .i64 n] w fun e w' => e = .returned (.int .i64 (k % n)) ∧ w = w' := by
  have hn0 : (n == 0) = false := by simp; omega
  have hb1 := Int.emod_nonneg k (show n ≠ 0 by omega)
  have hb2 := Int.emod_lt_of_pos k (show 0 < n by omega)
  have T := Mm.hid (tmod_fix k n h1)
  by_cases hk : 0 ≤ k
  · go_enter Try.func27, Try.ntmps27
    go_wp2
    go_ret
    exact ⟨rfl, rfl⟩
  · go_enter Try.func27, Try.ntmps27
    go_wp2
    · go_ret
      refine ⟨ret_int ?_, rfl⟩
      have := T.out.1 (by assumption)
      unfold wrap64; omega
    · go_ret
      refine ⟨ret_int ?_, rfl⟩
      exact T.out.2 (by assumption)
end Go.Proofs.Ytbhchnfdhdjfnaa

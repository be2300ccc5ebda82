/- Walks: the law MeterLean and what it calls. -/
import Derived.Test.YtbhchnfdhdjfnaaFl
namespace Go.Proofs.Ytbhchnfdhdjfnaa
open Go.RowKit
theorem same_true (x y : Nat) (w : World) (h : Sm x y) :
    Calls Try.prog 16 #[.float .f64 x, .float .f64 y] w fun e w' => e = .returned (.bool true) ∧ w = w' := by
  rcases h.cases_ with rfl | ⟨a, b⟩
  · have h0 := order_self x
    cases hn : (Ieee.double.read x).isNaN with
    | false =>
      have h1 : (Ieee.double.order x x == some .eq) = true := by rw [h0, hn]; rfl
      have h1 : (FloatKind.f64.format.order x x == some .eq) = true := h1
      clear h0 hn h
      go_enter Try.func16, Try.ntmps16
      go_wp2
      go_ret
      exact ⟨rfl, rfl⟩
    | true =>
      have h1 : FloatKind.f64.format.order x x = none := by show Ieee.double.order x x = none; rw [h0, hn]; rfl
      clear h0 hn h
      go_enter Try.func16, Try.ntmps16
      go_wp2
      go_ret
      exact ⟨rfl, rfl⟩
  · have h1 : FloatKind.f64.format.order x y = none := order_nan (.inl a)
    have h2 : FloatKind.f64.format.order x x = none := order_nan (.inl a)
    have h3 : FloatKind.f64.format.order y y = none := order_nan (.inl b)
    clear h a b
    go_enter Try.func16, Try.ntmps16
    go_wp2
    go_ret
    exact ⟨rfl, rfl⟩
theorem lean_any (a b : Nat) (w : World) :
    Calls Try.prog 17 #[.complex .f64 a b] w fun e w' => ∃ r n w1 w2 w3, e = .returned (.float .f64 r) ∧ w' = w.drewN n ∧ r = fres .add (fres .mul a a w1) (fres .mul b b w2) w3 := by
  go_enter Try.func17, Try.ntmps17
  go_wp2
  go_ret
  exact ⟨_, _, _, _, _, rfl, rfl, rfl⟩
theorem rlean_any (a b : Nat) (w : World) :
    Calls Try.prog 18 #[.float .f64 a, .float .f64 b] w fun e w' => ∃ r n w1 w2 w3, e = .returned (.float .f64 r) ∧ w' = w.drewN n ∧ r = fres .add (fres .mul a a w1) (fres .mul b b w2) w3 := by
  go_enter Try.func18, Try.ntmps18
  go_wp2
  go_ret
  exact ⟨_, _, _, _, _, rfl, rfl, rfl⟩
theorem law_lean (a b : Nat) (w : World) :
    Calls Try.prog 3 #[.float .f64 a, .float .f64 b] w fun e w' => e = .returned (.bool true) ∧ ∃ n, w' = w.drewN n := by
  go_enter Try.func3, Try.ntmps3
  go_wp2_with fail
  refine (lean_any _ _ _).mono ?_
  rintro e w1 ⟨r, n, v1, v2, v3, rfl, rfl, hr⟩
  have Hr := hid hr
  clear hr
  go_wp2_with fail
  refine (rlean_any _ _ _).mono ?_
  rintro e w1 ⟨s, m, v4, v5, v6, rfl, rfl, hs⟩
  have Hs := hid hs
  clear hs
  go_wp2_with fail
  refine (same_true _ _ _ ?_).mono ?_
  · rw [Hr.out, Hs.out]
    exact Sm.fres (Sm.fres (Sm.refl _) (Sm.refl _) _ _) (Sm.fres (Sm.refl _) (Sm.refl _) _ _) _ _
  rintro e w1 ⟨rfl, rfl⟩
  go_wp2_with fail
  go_ret
  exact ⟨rfl, _, rfl⟩
theorem below_drewN {w : World} (n : Nat) : Below w.heap.size w (w.drewN n) := by
  exact ⟨rfl, rfl, rfl, Nat.le_refl _, fun _ _ => rfl⟩
theorem law_lean_below (a b : Nat) (w : World) (_ : (Lit.float .f64 a).wf = true) (_ : (Lit.float .f64 b).wf = true) :
    Calls Try.prog 3 #[.float .f64 a, .float .f64 b] w fun e w' => e = .returned (.bool true) ∧ Below w.heap.size w w' := by
  refine (law_lean a b w).mono ?_
  rintro e w' ⟨rfl, n, rfl⟩
  exact ⟨rfl, below_drewN n⟩
end Go.Proofs.Ytbhchnfdhdjfnaa

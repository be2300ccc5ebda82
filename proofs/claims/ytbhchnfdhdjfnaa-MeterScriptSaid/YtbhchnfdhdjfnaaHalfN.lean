/- What halving keeps: plain numbers. -/
import Derived.Test.YtbhchnfdhdjfnaaNoted
namespace Go.Proofs.Ytbhchnfdhdjfnaa
open Go.RowKit Go.Mm
theorem hN_last (t r : Nat) : hN (t + 1) r = h1 (hN t r) := by
  induction t generalizing r with
  | zero => rfl
  | succ t ih => rw [hN, ih (h1 r)]; rfl
theorem two_isF : IsF Ieee.double 4611686018427387904 (2 * ((2 ^ kp : Nat) : Int)) := by
  have := (Dy.ofInt 2 (by decide)).2
  rw [Nat.sub_zero] at this
  exact this
theorem half_exact {a : Nat} (h : 2 * Ieee.double.binade ≤ a) (hf : a < Ieee.double.infRung) : ∃ s, floatBits .quo .f64 a 4611686018427387904 = some s ∧ ∃ t, floatBits .add .f64 s s = some t ∧ IsF Ieee.double t (rv Ieee.double a) := by
  have hb := binade_pos Ieee.double
  have hm := Nat.mod_lt a hb
  have hd := Nat.div_add_mod a Ieee.double.binade
  have hq : 2 ≤ a / Ieee.double.binade := (Nat.le_div_iff_mul_le hb).2 h
  obtain ⟨q, hq'⟩ : ∃ q, a / Ieee.double.binade - 1 = q + 1 := ⟨a / Ieee.double.binade - 2, by omega⟩
  have hz : rv Ieee.double a = (Ieee.double.binade + a % Ieee.double.binade) * 2 ^ (q + 1) := by
    unfold rv; rw [if_neg (by omega), hq']
  have hlt : rv Ieee.double a < rv Ieee.double Ieee.double.infRung := rv_strict _ hf
  generalize hk : Ieee.double.binade + a % Ieee.double.binade = k at *
  have fa : IsF Ieee.double a (rv Ieee.double a) := ⟨false, a, rfl, hf, rfl⟩
  have e2 : k * 2 ^ (q + 1) = 2 * (k * 2 ^ q) := by rw [Nat.pow_succ, ← Nat.mul_assoc, Nat.mul_comm]
  have r1 : Rep Ieee.double ((k * 2 ^ q : Nat) : Int) := ⟨⟨k, q, by rw [Int.natAbs_natCast], by omega⟩, by rw [Int.natAbs_natCast]; omega⟩
  obtain ⟨s, h1, f1⟩ := div_exact Ieee.double (v := ((k * 2 ^ q : Nat) : Int)) fa two_isF (by decide) (by
    have := Nat.two_pow_pos kp; omega) (by
    rw [dbl_up, hz, e2]
    simp only [Int.natCast_mul]
    generalize ((2 ^ kp : Nat) : Int) = X
    generalize ((2 ^ q : Nat) : Int) = Y
    generalize (k : Int) = K
    rw [← Int.mul_assoc, Int.mul_comm (K * Y) 2]
    rfl) r1
  have r2 : Rep Ieee.double (((k * 2 ^ q : Nat) : Int) + ((k * 2 ^ q : Nat) : Int)) := by
    refine ⟨⟨k, q + 1, ?_, by omega⟩, ?_⟩
    · rw [e2]; omega
    · omega
  obtain ⟨t, h2, f2⟩ := add_exact Ieee.double f1 f1 r2
  refine ⟨s, h1, t, h2, ?_⟩
  have : (((k * 2 ^ q : Nat) : Int) + ((k * 2 ^ q : Nat) : Int)) = (rv Ieee.double a : Int) := by rw [hz, e2]; omega
  rwa [this] at f2
theorem half_law {a tiny : Nat} (h : Pos a) (ht : Dy tiny 1 1021) :
    (a ≠ 0 ∧ (FloatKind.f64.format.order a tiny == some .lt) = true) ∨ ∀ W, (FloatKind.f64.format.order (fres .add (Ytbhchnfdhdjfnaa.h1 a) (Ytbhchnfdhdjfnaa.h1 a) W) a == some .eq) = true := by
  by_cases h0 : a = 0
  · subst h0
    right
    intro W
    rw [h1_zero, fres_adf (Nat.zero_le _) (Nat.zero_le _)]
    decide +kernel
  · rcases Nat.lt_or_eq_of_le h with hf | hf
    · have fa : IsF Ieee.double a (rv Ieee.double a) := ⟨false, a, rfl, hf, rfl⟩
      by_cases hlt : rv Ieee.double a < 2 ^ 53
      · left
        refine ⟨h0, ?_⟩
        have ho : FloatKind.f64.format.order a tiny = Ieee.double.order a tiny := rfl
        have e : (1 : Int) * ((2 ^ (kp - 1021) : Nat) : Int) = ((2 ^ 53 : Nat) : Int) := by rw [kp_eq]; decide
        have hy := ht.2
        rw [e] at hy
        rw [ho, order_isF Ieee.double fa hy]
        have : (rv Ieee.double a : Int) < ((2 ^ 53 : Nat) : Int) := by omega
        simp only [compare, compareOfLessAndEq, if_pos this]
        rfl
      · right
        have hge : 2 * Ieee.double.binade ≤ a := by
          rcases Nat.lt_or_ge a (2 * Ieee.double.binade) with h1 | h1
          · exfalso
            have := rv_strict Ieee.double h1
            have e := rv_at Ieee.double 1 Ieee.double.binade (by decide) (.inr (Nat.le_refl _))
            rw [show 1 * Ieee.double.binade + Ieee.double.binade = 2 * Ieee.double.binade from by omega] at e
            rw [e] at this
            have e3 : Ieee.double.binade * 2 ^ 1 = 2 ^ 53 := by decide
            omega
          · exact h1
        obtain ⟨s, e1, t, e2, ft⟩ := half_exact hge hf
        intro W
        have hs : Ytbhchnfdhdjfnaa.h1 a = s := by unfold Ytbhchnfdhdjfnaa.h1; rw [e1]; rfl
        have ht' : fres .add s s W = t := by unfold fres; rw [e2]; rfl
        rw [hs, ht']
        have ho : FloatKind.f64.format.order t a = Ieee.double.order t a := rfl
        rw [ho, order_isF Ieee.double ft fa]
        simp [compare, compareOfLessAndEq]
    · right
      intro W
      rw [hf, fres_adf (h1_pos (Nat.le_refl _)) (h1_pos (Nat.le_refl _))]
      decide +kernel
end Go.Proofs.Ytbhchnfdhdjfnaa

/- Floats from 0 up: halved, added to: plain numbers. -/
import Derived.Test.YtbhchnfdhdjfnaaCompass
import Derived.Deep.QuietTactic
import Derived.BigQuiet
namespace Go.Proofs.Ytbhchnfdhdjfnaa
open Go.RowKit Go.Mm

/-! ### floats from 0 up, infinity let in -/
def Pos (r : Nat) : Prop := r ≤ Ieee.double.infRung
def Ok (d : Ieee.Datum) : Prop := d.isNaN = false ∧ d.neg = false
theorem write_ok {d : Ieee.Datum} (h : Ok d) : Pos (Ieee.double.write d) := by
  have hn : ∀ r, r ≤ Ieee.double.infRung → Pos (Ieee.double.word false r) := fun r hr => hr
  cases d with
  | number s m p =>
    obtain rfl : s = false := h.2
    show Pos (Ieee.double.nearest false m p)
    unfold Ieee.Format.nearest
    dsimp only
    split
    · exact hn _ (Nat.zero_le _)
    · exact hn _ (Nat.min_le_right ..)
  | infinity s =>
    obtain rfl : s = false := h.2
    exact hn _ (Nat.le_refl _)
  | nan s t => cases h.1
theorem pos_read {r : Nat} (h : Pos r) : Ok (Ieee.double.read r) ∧ (r ≠ 0 → r = Ieee.double.infRung ∨ r < Ieee.double.infRung) := by
  refine ⟨?_, fun _ => by unfold Pos at h; omega⟩
  rcases Nat.lt_or_eq_of_le h with h1 | h1
  · obtain ⟨m, p, e, _⟩ := read_word Ieee.double false r h1
    have : Ieee.double.word false r = r := rfl
    rw [this] at e
    rw [e]; exact ⟨rfl, rfl⟩
  · rw [h1]; exact ⟨by decide, by decide⟩
theorem pos_gt {r : Nat} (h : Pos r) : (FloatKind.f64.format.order r 0 == some .gt) = decide (r ≠ 0) := by
  have ho : FloatKind.f64.format.order r 0 = Ieee.double.order r 0 := rfl
  rw [ho]
  rcases Nat.lt_or_eq_of_le h with h1 | h1
  · have f1 : IsF Ieee.double r (rv Ieee.double r) := ⟨false, r, rfl, h1, rfl⟩
    have f0 : IsF Ieee.double 0 0 := by have := Dy.zero.2; rwa [Int.zero_mul] at this
    rw [order_isF Ieee.double f1 f0]
    by_cases h0 : r = 0
    · subst h0; simp [rv_zero, compare, compareOfLessAndEq]
    · have : rv Ieee.double 0 < rv Ieee.double r := rv_strict _ (by omega)
      rw [rv_zero] at this
      have h2 : ¬ (rv Ieee.double r : Int) < 0 := by omega
      have h3 : ¬ (rv Ieee.double r : Int) = 0 := by omega
      simp only [compare, compareOfLessAndEq, if_neg h2, if_neg h3]
      simp [h0]
  · subst h1; decide
theorem pos_quo {r : Nat} (h : Pos r) : ∃ q, floatBits .quo .f64 r 4611686018427387904 = some q ∧ Pos q ∧ (r = 0 → q = 0) := by
  obtain ⟨⟨h1, h2⟩, _⟩ := pos_read h
  have e2 : Ieee.double.read 4611686018427387904 = .number false 4503599627370496 (-51) := by decide
  have hb : floatBits .quo .f64 r 4611686018427387904 = ((Ieee.double.read r).quotient 54 (Ieee.double.read 4611686018427387904)).map Ieee.double.write := rfl
  by_cases h0 : r = 0
  · subst h0; exact ⟨0, by decide, Nat.zero_le _, fun _ => rfl⟩
  · rw [hb, e2]
    generalize Ieee.double.read r = d at *
    cases d with
    | number s m p =>
      obtain rfl : s = false := h2
      simp only [Ieee.Datum.quotient, show (4503599627370496 : Nat) ≠ 0 by decide, if_false, Option.map_some]
      exact ⟨_, rfl, write_ok ⟨rfl, rfl⟩, fun h => absurd h h0⟩
    | infinity s =>
      obtain rfl : s = false := h2
      exact ⟨_, rfl, write_ok ⟨rfl, rfl⟩, fun h => absurd h h0⟩
    | nan s t => cases h1
theorem pos_add {r s : Nat} (h : Pos r) (h' : Pos s) : ∃ q, floatBits .add .f64 r s = some q ∧ Pos q := by
  obtain ⟨⟨h1, h2⟩, _⟩ := pos_read h
  obtain ⟨⟨h3, h4⟩, _⟩ := pos_read h'
  have hb : floatBits .add .f64 r s = ((Ieee.double.read r).sum (Ieee.double.read s)).map Ieee.double.write := rfl
  rw [hb]
  generalize Ieee.double.read r = d at *
  generalize Ieee.double.read s = e at *
  cases d with
  | number s m p =>
    obtain rfl : s = false := h2
    cases e with
    | number t n q =>
      obtain rfl : t = false := h4
      refine ⟨_, rfl, write_ok ⟨rfl, ?_⟩⟩
      simp only [Ieee.Datum.neg, signed_sgn, Bool.and_self]
      have : ¬ (sgn false (m * 2 ^ (p - min p q).toNat) + sgn false (n * 2 ^ (q - min p q).toNat) < 0) := by
        unfold sgn; simp only [Bool.false_eq_true, if_false]; omega
      simp [this]
    | infinity t =>
      obtain rfl : t = false := h4
      exact ⟨_, rfl, write_ok ⟨rfl, rfl⟩⟩
    | nan s t => cases h3
  | infinity s =>
    obtain rfl : s = false := h2
    cases e with
    | number t n q => exact ⟨_, rfl, write_ok ⟨rfl, rfl⟩⟩
    | infinity t =>
      obtain rfl : t = false := h4
      exact ⟨_, rfl, write_ok ⟨rfl, rfl⟩⟩
    | nan s t => cases h3
  | nan s t => cases h1
theorem pos_ofInt (n : Int) (h : 0 ≤ n) : Pos (floatOfInt .f64 n) := by
  have e : floatOfInt .f64 n = Ieee.double.write (.number (decide (n < 0)) n.natAbs 0) := rfl
  rw [e]
  refine write_ok ⟨rfl, ?_⟩
  show decide (n < 0) = false
  simp; omega

/-- halved once, so many times -/
def h1 (r : Nat) : Nat := (floatBits .quo .f64 r 4611686018427387904).getD 0
def hN : Nat → Nat → Nat
  | 0, r => r
  | t + 1, r => hN t (h1 r)
theorem h1_pos {r : Nat} (h : Pos r) : Pos (h1 r) := by
  obtain ⟨q, e, hq, _⟩ := pos_quo h
  unfold h1; rw [e]; exact hq
theorem h1_zero : h1 0 = 0 := by decide
theorem hN_zero (t : Nat) : hN t 0 = 0 := by
  induction t with
  | zero => rfl
  | succ t ih => rw [hN, h1_zero, ih]
theorem hN_pos {r : Nat} (h : Pos r) (t : Nat) : Pos (hN t r) := by
  induction t generalizing r with
  | zero => exact h
  | succ t ih => exact ih (h1_pos h)
theorem fres_h1 {r : Nat} (h : Pos r) (w : World) : fres .quo r 4611686018427387904 w = h1 r := by
  obtain ⟨q, e, _⟩ := pos_quo h
  unfold fres h1; rw [e]; rfl
def adf (r s : Nat) : Nat := (floatBits .add .f64 r s).getD 0
theorem adf_pos {r s : Nat} (h : Pos r) (h' : Pos s) : Pos (adf r s) := by
  obtain ⟨q, e, hq⟩ := pos_add h h'
  unfold adf; rw [e]; exact hq
theorem fres_adf {r s : Nat} (h : Pos r) (h' : Pos s) (w : World) : fres .add r s w = adf r s := by
  obtain ⟨q, e, hq⟩ := pos_add h h'
  unfold fres adf; rw [e]; rfl
end Go.Proofs.Ytbhchnfdhdjfnaa

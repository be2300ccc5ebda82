/- Doubles that are k / 2^j: sums, differences, products, quotients, comparisons of such, exact as long as the result's k is below 2^53. -/
import Derived.Test.YthojgfnaanckeaaOps
namespace Go.Proofs.Ythojgfnaanckeaa
open Go.RowKit

/- the numbers 1074 and 2046 behind names, so that nobody reckons powers of them -/
@[irreducible] def kp : Nat := 1074
@[irreducible] def km : Nat := 2046
theorem kp_eq : kp = 1074 := by unfold kp; rfl
theorem km_eq : km = 2046 := by unfold km; rfl
theorem dbl_least : Ieee.double.leastPlace = -(kp : Int) := by rw [kp_eq]; decide
theorem dbl_up : (-Ieee.double.leastPlace).toNat = kp := by rw [kp_eq]; decide
theorem dbl_inf : rv Ieee.double Ieee.double.infRung = 2 ^ 52 * 2 ^ km := by
  have h1 : Ieee.double.infRung = km * Ieee.double.binade + Ieee.double.binade := by rw [km_eq]; decide
  have h2 : Ieee.double.binade = 2 ^ 52 := by decide
  rw [h1, rv_at Ieee.double km Ieee.double.binade (by decide) (.inr (Nat.le_refl _)), h2]
theorem dbl_binade : Ieee.double.binade = 4503599627370496 := by decide

/-- x is finite, and is k / 2^j -/
def Dy (x : Nat) (k : Int) (j : Nat) : Prop := j ≤ kp ∧ IsF Ieee.double x (k * ((2 ^ (kp - j) : Nat) : Int))

theorem rep_dy (k : Int) (j : Nat) (h : k.natAbs < 9007199254740992) : Rep Ieee.double (k * ((2 ^ (kp - j) : Nat) : Int)) := by
  unfold Rep
  rw [Int.natAbs_mul, Int.natAbs_natCast, dbl_inf, dbl_binade]
  refine ⟨⟨_, _, rfl, by omega⟩, ?_⟩
  have h1 : k.natAbs * 2 ^ (kp - j) < 2 ^ 53 * 2 ^ (kp - j) := Nat.mul_lt_mul_of_pos_right (by simpa using h) (Nat.two_pow_pos _)
  refine Nat.lt_of_lt_of_le h1 ?_
  rw [← Nat.pow_add, ← Nat.pow_add]
  exact Nat.pow_le_pow_right (by decide) (by have := kp_eq; have := km_eq; omega)

theorem Dy.more {x : Nat} {k : Int} {j : Nat} (h : Dy x k j) (i : Nat) (hi : j + i ≤ kp) : Dy x (k * ((2 ^ i : Nat) : Int)) (j + i) := by
  refine ⟨hi, ?_⟩
  have := h.2
  rwa [show kp - j = i + (kp - (j + i)) from by omega, Nat.pow_add, Int.natCast_mul, ← Int.mul_assoc] at this

theorem Dy.ofInt (n : Int) (h : n.natAbs < 9007199254740992) : Dy (floatOfInt .f64 n) n 0 := by
  refine ⟨by omega, ?_⟩
  have e : floatOfInt .f64 n = Ieee.double.nearest (decide (n < 0)) n.natAbs 0 := rfl
  rw [e]
  have main := nearest_exact Ieee.double (decide (n < 0)) n.natAbs 0 (n.natAbs * 2 ^ kp) 0 (by decide) (by
    rw [Nat.pow_zero, Nat.mul_one, show ((0 : Int) - Ieee.double.leastPlace + ((0 : Nat) : Int)).toNat = kp from by rw [dbl_least]; omega]) (by
    have := (rep_dy n 0 h).abs
    rwa [Int.natAbs_mul, Int.natAbs_natCast] at this)
  have hs : sgn (decide (n < 0)) (n.natAbs * 2 ^ kp) = n * ((2 ^ (kp - 0) : Nat) : Int) := by
    rw [sgn_mul]
    congr 1
    unfold sgn
    by_cases h1 : n < 0
    · rw [if_pos (by simpa using h1)]; omega
    · rw [if_neg (by simpa using h1)]; omega
  rwa [hs] at main

theorem Dy.add {x y : Nat} {k l : Int} {j : Nat} (hx : Dy x k j) (hy : Dy y l j) (h : (k + l).natAbs < 9007199254740992) : ∃ r, floatBits .add .f64 x y = some r ∧ Dy r (k + l) j := by
  obtain ⟨r, h1, h2⟩ := add_exact Ieee.double hx.2 hy.2 (by rw [← Int.add_mul]; exact rep_dy _ _ h)
  rw [← Int.add_mul] at h2
  exact ⟨r, h1, hx.1, h2⟩
theorem Dy.sub {x y : Nat} {k l : Int} {j : Nat} (hx : Dy x k j) (hy : Dy y l j) (h : (k - l).natAbs < 9007199254740992) : ∃ r, floatBits .sub .f64 x y = some r ∧ Dy r (k - l) j := by
  obtain ⟨r, h1, h2⟩ := sub_exact Ieee.double hx.2 hy.2 (by rw [← Int.sub_mul]; exact rep_dy _ _ h)
  rw [← Int.sub_mul] at h2
  exact ⟨r, h1, hx.1, h2⟩
theorem Dy.mul {x y : Nat} {k l : Int} {i j : Nat} (hx : Dy x k i) (hy : Dy y l j) (hij : i + j ≤ kp) (h : (k * l).natAbs < 9007199254740992) : ∃ r, floatBits .mul .f64 x y = some r ∧ Dy r (k * l) (i + j) := by
  obtain ⟨r, h1, h2⟩ := mul_exact Ieee.double (v := k * l * ((2 ^ (kp - (i + j)) : Nat) : Int)) hx.2 hy.2 (by decide) (by
    rw [dbl_up]
    have e : (2 ^ (kp - i) : Nat) * 2 ^ (kp - j) = 2 ^ (kp - (i + j)) * 2 ^ kp := by rw [← Nat.pow_add, ← Nat.pow_add]; congr 1; have := hx.1; have := hy.1; omega
    have e' := congrArg (fun n : Nat => (n : Int)) e
    simp only [Int.natCast_mul] at e'
    calc k * ((2 ^ (kp - i) : Nat) : Int) * (l * ((2 ^ (kp - j) : Nat) : Int)) = k * l * (((2 ^ (kp - i) : Nat) : Int) * ((2 ^ (kp - j) : Nat) : Int)) := by
          rw [Int.mul_assoc, Int.mul_assoc, Int.mul_left_comm l]
      _ = _ := by rw [e', Int.mul_assoc, Int.mul_assoc, Int.mul_assoc]) (rep_dy _ _ h)
  exact ⟨r, h1, hij, h2⟩
/-- a quotient that comes out -/
theorem Dy.div {x y : Nat} {k l m : Int} {i j : Nat} (hx : Dy x m i) (hy : Dy y l j) (hl : l ≠ 0) (hj : j ≤ i) (hm : m = k * l) (h : k.natAbs < 9007199254740992) : ∃ r, floatBits .quo .f64 x y = some r ∧ Dy r k (i - j) := by
  obtain ⟨r, h1, h2⟩ := div_exact Ieee.double (v := k * ((2 ^ (kp - (i - j)) : Nat) : Int)) hx.2 hy.2 (by decide) (by
    have : (0 : Int) < ((2 ^ (kp - j) : Nat) : Int) := by have := Nat.two_pow_pos (kp - j); omega
    exact Int.mul_ne_zero hl (Int.ne_of_gt this)) (by
    rw [dbl_up, hm]
    have e : (2 ^ (kp - (i - j)) : Nat) * 2 ^ (kp - j) = 2 ^ (kp - i) * 2 ^ kp := by rw [← Nat.pow_add, ← Nat.pow_add]; congr 1; have := hx.1; have := hy.1; omega
    have e' := congrArg (fun n : Nat => (n : Int)) e
    simp only [Int.natCast_mul] at e'
    calc k * ((2 ^ (kp - (i - j)) : Nat) : Int) * (l * ((2 ^ (kp - j) : Nat) : Int)) = k * l * (((2 ^ (kp - (i - j)) : Nat) : Int) * ((2 ^ (kp - j) : Nat) : Int)) := by
          rw [Int.mul_assoc, Int.mul_assoc, Int.mul_left_comm l]
      _ = _ := by rw [e', ← Int.mul_assoc]) (rep_dy _ _ h)
  exact ⟨r, h1, by have := hx.1; omega, h2⟩
theorem Dy.order {x y : Nat} {k l : Int} {j : Nat} (hx : Dy x k j) (hy : Dy y l j) : Ieee.double.order x y = some (compare k l) := by
  rw [order_isF Ieee.double hx.2 hy.2, compare_mul _ _ _ (Nat.two_pow_pos _)]
theorem Dy.canon {x : Nat} {k : Int} {j : Nat} (h : Dy x k j) : canon x = some x := by
  unfold Ythojgfnaanckeaa.canon
  obtain ⟨s, m, p, e, _⟩ := h.2.read
  rw [e]; rfl
theorem Dy.of_canon {x r : Nat} {k : Int} {j : Nat} (h : Dy r k j) (hc : Ythojgfnaanckeaa.canon x = some r) : Dy x k j := by
  rw [(canon_some hc).1]; exact h
theorem Dy.zero : Dy 0 0 0 := ⟨by omega, false, 0, rfl, by decide, by rw [rv_zero, Int.zero_mul]; rfl⟩
/-- two that are the same number are the same word, but for the sign of a zero -/
theorem Dy.eq {x y : Nat} {k : Int} {j : Nat} (hx : Dy x k j) (hy : Dy y k j) (hk : k ≠ 0) : x = y := by
  obtain ⟨_, s, r, rfl, hr, e⟩ := hx
  obtain ⟨_, t, q, rfl, hq, e'⟩ := hy
  have hz : k * ((2 ^ (kp - j) : Nat) : Int) ≠ 0 := by
    have : (0 : Int) < ((2 ^ (kp - j) : Nat) : Int) := by have := Nat.two_pow_pos (kp - j); omega
    exact Int.mul_ne_zero hk (Int.ne_of_gt this)
  rw [e] at e' hz
  have : rv Ieee.double r = rv Ieee.double q := by
    have := congrArg Int.natAbs e'
    rwa [natAbs_sgn, natAbs_sgn] at this
  obtain rfl := rv_inj _ this
  unfold sgn at e' hz
  cases s <;> cases t <;> simp at e' hz ⊢ <;> omega
end Go.Proofs.Ythojgfnaanckeaa

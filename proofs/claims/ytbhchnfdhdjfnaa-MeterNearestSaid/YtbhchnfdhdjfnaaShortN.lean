/- Half the bits: the float32 of a float, and back. Plain. -/
import Derived.Test.YtbhchnfdhdjfnaaSq
import Derived.Laws.FloatArith
namespace Go.Proofs.Ytbhchnfdhdjfnaa
set_option exponentiation.threshold 3000
open Go.RowKit
theorem sgl_least : Ieee.single.leastPlace = -149 := by decide
theorem sgl_binade : Ieee.single.binade = 8388608 := by decide
theorem sgl_frac : Ieee.single.fractionBits = 23 := by decide
theorem sgl_inf : rv Ieee.single Ieee.single.infRung = 8388608 * 2 ^ 254 := by
  rw [show Ieee.single.infRung = 255 * Ieee.single.binade + 0 from by decide]
  rw [show 255 * Ieee.single.binade + 0 = 254 * Ieee.single.binade + Ieee.single.binade from by decide, rv_at Ieee.single 254 Ieee.single.binade (by decide) (.inr (Nat.le_refl _)), sgl_binade]
/-- a float32 as a float -/
theorem rep_single {r : Nat} (hr : r < Ieee.single.infRung) : Rep Ieee.double ((rv Ieee.single r : Nat) * ((2 ^ 925 : Nat) : Int)) := by
  have h1 : rv Ieee.single r < 8388608 * 2 ^ 254 := by rw [← sgl_inf]; exact rv_strict Ieee.single hr
  have h2 : ((rv Ieee.single r : Nat) * ((2 ^ 925 : Nat) : Int)).natAbs = rv Ieee.single r * 2 ^ 925 := by rw [Int.natAbs_mul, Int.natAbs_natCast, Int.natAbs_natCast]
  refine ⟨?_, ?_⟩
  · rw [h2]
    unfold rv
    split
    · rename_i h
      rw [sgl_binade] at h
      exact ⟨r, 925, rfl, by rw [dbl_binade]; omega⟩
    · refine ⟨Ieee.single.binade + r % Ieee.single.binade, (r / Ieee.single.binade - 1) + 925, by rw [Nat.mul_assoc, ← Nat.pow_add], ?_⟩
      rw [sgl_binade, dbl_binade]
      have := Nat.mod_lt r (show 0 < 8388608 by decide)
      omega
  · rw [h2, dbl_inf, km_eq]
    calc rv Ieee.single r * 2 ^ 925 < 8388608 * 2 ^ 254 * 2 ^ 925 := Nat.mul_lt_mul_of_pos_right h1 (Nat.two_pow_pos _)
      _ = 2 ^ (23 + 254 + 925) := by rw [Nat.pow_add, Nat.pow_add]
      _ ≤ 2 ^ (52 + 2046) := Nat.pow_le_pow_right (by decide) (by decide)
      _ = 2 ^ 52 * 2 ^ 2046 := by rw [Nat.pow_add]
theorem to_single {x : Nat} {z : Int} (hx : IsF Ieee.double x z) (hfin : rr Ieee.single z.natAbs 925 < Ieee.single.infRung) :
    ∃ s r, r = rr Ieee.single z.natAbs 925 ∧ z = sgn s z.natAbs ∧ floatToFloatBits .f64 x .f32 = some (Ieee.single.word s r) := by
  obtain ⟨s, m, p, e, hp, rfl⟩ := hx.read
  rw [natAbs_sgn] at *
  have hd : Ieee.double.leastPlace = -1074 := by decide
  have hp' : 0 ≤ p - Ieee.single.leastPlace + (925 : Nat) := by rw [sgl_least]; rw [hd] at hp; omega
  have he : (p - Ieee.single.leastPlace + (925 : Nat)).toNat = (p - Ieee.double.leastPlace).toNat := by rw [sgl_least, hd]; congr 1; omega
  have hn := nearest_rr Ieee.single s m 925 p hp'
  rw [he, Nat.min_eq_left (Nat.le_of_lt hfin)] at hn
  refine ⟨s, _, rfl, rfl, ?_⟩
  obtain ⟨m', p', e', _, _⟩ := read_word Ieee.single s _ hfin
  unfold floatToFloatBits
  rw [if_neg (by decide), show FloatKind.f64.decode x = .number s m p from e]
  dsimp only
  rw [show FloatKind.f32.encode (.number s m p) = Ieee.single.word s (rr Ieee.single (m * 2 ^ (p - Ieee.double.leastPlace).toNat) 925) from hn, show FloatKind.f32.decode (Ieee.single.word s (rr Ieee.single (m * 2 ^ (p - Ieee.double.leastPlace).toNat) 925)) = .number s m' p' from e']
  rfl
theorem of_single (s : Bool) {r : Nat} (hr : r < Ieee.single.infRung) :
    ∃ t, floatToFloatBits .f32 (Ieee.single.word s r) .f64 = some t ∧ IsF Ieee.double t (sgn s (rv Ieee.single r * 2 ^ 925)) := by
  obtain ⟨m, p, e, hp, hm⟩ := read_word Ieee.single s r hr
  have hd : Ieee.double.leastPlace = -1074 := by decide
  have hrep := rep_single hr
  have hrep' : Rep Ieee.double ((rv Ieee.single r * 2 ^ 925 : Nat) : Int) := by
    have : ((rv Ieee.single r * 2 ^ 925 : Nat) : Int) = (rv Ieee.single r : Nat) * ((2 ^ 925 : Nat) : Int) := Int.natCast_mul _ _
    rw [this]; exact hrep
  have hn := nearest_exact Ieee.double s m p (rv Ieee.single r * 2 ^ 925) 0 (by rw [hd]; rw [sgl_least] at hp; omega) (by
    rw [← hm, show (p - Ieee.double.leastPlace + ((0 : Nat) : Int)).toNat = (p - Ieee.single.leastPlace).toNat + 925 from by rw [hd, sgl_least]; rw [sgl_least] at hp; omega, Nat.pow_add, Nat.pow_zero, Nat.mul_one, Nat.mul_assoc]) hrep'
  obtain ⟨s', r', hw, hlt, hz⟩ := hn
  obtain ⟨m', p', e', _, _⟩ := read_word Ieee.double s' r' hlt
  refine ⟨Ieee.double.nearest s m p, ?_, ⟨s', r', hw, hlt, hz⟩⟩
  unfold floatToFloatBits
  rw [if_neg (by decide), show FloatKind.f32.decode (Ieee.single.word s r) = .number s m p from e]
  dsimp only
  rw [show FloatKind.f64.encode (.number s m p) = Ieee.double.word s' r' from hw, show FloatKind.f64.decode (Ieee.double.word s' r') = .number s' m' p' from e', hw]
  rfl
/-- what is lost is a number of the format -/
theorem lost_le (N g k : Nat) (h1 : 2 * (k * g) ≤ 2 * N + g) (h2 : 2 * N ≤ 2 * (k * g) + g) : ((N : Int) - ((k * g : Nat) : Int)).natAbs ≤ N ∧ 2 * ((N : Int) - ((k * g : Nat) : Int)).natAbs ≤ g := by
  rcases Nat.eq_zero_or_pos k with rfl | hk
  · rw [Nat.zero_mul] at *; omega
  · have h3 : g ≤ k * g := Nat.le_mul_of_pos_left g hk
    generalize k * g = K at *
    omega
theorem rep_lost {N u : Nat} (h : Rep Ieee.double (N : Int)) : Rep Ieee.double ((N : Int) - ((rne N (2 ^ u) * 2 ^ u : Nat) : Int)) := by
  obtain ⟨⟨a, t, e, ha⟩, hm⟩ := h
  rw [Int.natAbs_natCast] at e hm
  have near := rne_near N (2 ^ u) (Nat.two_pow_pos u)
  have hle := (lost_le N (2 ^ u) (rne N (2 ^ u)) near.1 near.2).1
  refine ⟨?_, Nat.lt_of_le_of_lt hle hm⟩
  by_cases htu : u ≤ t
  · have e2 : N = (a * 2 ^ (t - u)) * 2 ^ u := by rw [e, Nat.mul_assoc, ← Nat.pow_add]; congr 2; omega
    have : rne N (2 ^ u) * 2 ^ u = N := by
      conv => lhs; rw [e2]
      rw [rne_mul _ _ (Nat.two_pow_pos u), ← e2]
    rw [this, Int.sub_self]
    exact ⟨0, 0, rfl, by rw [dbl_binade]; decide⟩
  · have hg : (2 : Nat) ^ u = 2 ^ (u - t) * 2 ^ t := by rw [← Nat.pow_add]; congr 1; omega
    have hd : ((N : Int) - ((rne N (2 ^ u) * 2 ^ u : Nat) : Int)).natAbs = ((a : Int) - ((rne N (2 ^ u) * 2 ^ (u - t) : Nat) : Int)).natAbs * 2 ^ t := by
      generalize rne N (2 ^ u) = k
      rw [hg, e, ← Nat.mul_assoc, Int.natCast_mul a, Int.natCast_mul (k * 2 ^ (u - t)), ← Int.sub_mul, Int.natAbs_mul, Int.natAbs_natCast]
    refine ⟨_, t, hd, ?_⟩
    rw [hd] at hle
    generalize ((a : Int) - ((rne N (2 ^ u) * 2 ^ (u - t) : Nat) : Int)).natAbs = b at *
    rw [e] at hle
    have := Nat.le_of_mul_le_mul_right hle (Nat.two_pow_pos t)
    omega
end Go.Proofs.Ytbhchnfdhdjfnaa

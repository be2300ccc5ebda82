/- No float32 is nearer: plain numbers. -/
import Derived.Test.YtbhchnfdhdjfnaaShortW
namespace Go.Proofs.Ytbhchnfdhdjfnaa
set_option exponentiation.threshold 3000
open Go.RowKit Go.Mm
theorem single_lt {r : Nat} (hr : r < Ieee.single.infRung) : rv Ieee.single r * 2 ^ 925 < BB := by
  have h1 : r ≤ 253 * Ieee.single.binade + 16777215 := by
    have e : Ieee.single.infRung = 253 * Ieee.single.binade + 16777216 := by decide
    rw [e] at hr
    exact Nat.le_of_lt_succ hr
  have h2 := (rv_le_iff Ieee.single).2 h1
  rw [rv_at Ieee.single 253 16777215 (by decide) (.inr (by decide))] at h2
  have h3 := Nat.mul_le_mul_right (2 ^ 925) h2
  refine Nat.lt_of_le_of_lt h3 ?_
  unfold BB
  rw [Nat.mul_assoc, ← Nat.pow_add, show 253 + 925 = 1 + 1177 from rfl, Nat.pow_add, ← Nat.mul_assoc]
  exact Nat.mul_lt_mul_of_pos_right (by decide) (Nat.two_pow_pos _)
theorem near_mul (N g k : Nat) (hg : 0 < g) : ((N : Int) - ((rne N g * g : Nat) : Int)).natAbs ≤ ((N : Int) - ((k * g : Nat) : Int)).natAbs := by
  have near := rne_near N g hg
  generalize rne N g = r at *
  rcases Nat.lt_trichotomy k r with h | h | h
  · have h1 : k * g + g ≤ r * g := by
      have := Nat.mul_le_mul_right g h
      rwa [Nat.succ_eq_add_one, Nat.add_mul, Nat.one_mul] at this
    generalize k * g = K at *
    generalize r * g = R at *
    omega
  · subst h; exact Nat.le_refl _
  · have h1 : r * g + g ≤ k * g := by
      have := Nat.mul_le_mul_right g h
      rwa [Nat.succ_eq_add_one, Nat.add_mul, Nat.one_mul] at this
    generalize k * g = K at *
    generalize r * g = R at *
    omega
theorem near_low {N P M K : Nat} (h1 : M ≤ P) (h2 : P ≤ N) (h3 : ((N : Int) - (K : Int)).natAbs ≤ ((N : Int) - (P : Int)).natAbs) : ((N : Int) - (K : Int)).natAbs ≤ ((N : Int) - (M : Int)).natAbs := by omega
/-- no float32 is nearer -/
theorem nearest32 (N : Nat) {r : Nat} : ((N : Int) - ((KK N : Nat) : Int)).natAbs ≤ ((N : Int) - ((rv Ieee.single r * 2 ^ 925 : Nat) : Int)).natAbs := by
  obtain ⟨a, t, hM, ha⟩ : ∃ a t, rv Ieee.single r * 2 ^ 925 = a * 2 ^ (925 + t) ∧ a < 16777216 := by
    unfold rv
    rw [sgl_binade]
    split
    · exact ⟨r, 0, by rw [Nat.add_zero], by omega⟩
    · exact ⟨8388608 + r % 8388608, r / 8388608 - 1, by rw [Nat.mul_assoc, ← Nat.pow_add, Nat.add_comm 925], by omega⟩
  rw [hM]
  unfold KK
  by_cases ht : gE N ≤ 925 + t
  · have e : a * 2 ^ (925 + t) = a * 2 ^ (925 + t - gE N) * 2 ^ gE N := by rw [Nat.mul_assoc, ← Nat.pow_add, Nat.sub_add_cancel ht]
    rw [e]
    exact near_mul _ _ _ (Nat.two_pow_pos _)
  · have hl : 948 < N.log2 := by unfold gE at ht; omega
    have hP : 8388608 * 2 ^ gE N ≤ N := by
      have h0 : N ≠ 0 := by rintro rfl; rw [Nat.log2_zero] at hl; omega
      refine Nat.le_trans ?_ (Nat.log2_self_le h0)
      rw [show 8388608 = 2 ^ 23 from rfl, ← Nat.pow_add]
      exact Nat.pow_le_pow_right (by decide) (by unfold gE; omega)
    have hMP : a * 2 ^ (925 + t) ≤ 8388608 * 2 ^ gE N := by
      have e : 2 ^ gE N = 2 ^ (gE N - (925 + t)) * 2 ^ (925 + t) := by rw [← Nat.pow_add, Nat.sub_add_cancel (Nat.le_of_lt (Nat.lt_of_not_le ht))]
      rw [e, ← Nat.mul_assoc]
      refine Nat.mul_le_mul_right _ ?_
      have h2 : 2 ^ 1 ≤ 2 ^ (gE N - (925 + t)) := Nat.pow_le_pow_right (by decide) (by omega)
      have := Nat.mul_le_mul_left 8388608 h2
      omega
    exact near_low hMP hP (near_mul N (2 ^ gE N) 8388608 (Nat.two_pow_pos _))
theorem near_le (N : Nat) : ((N : Int) - ((KK N : Nat) : Int)).natAbs ≤ N := by
  have near := rne_near N (2 ^ gE N) (Nat.two_pow_pos _)
  exact (lost_le N (2 ^ gE N) (rne N (2 ^ gE N)) near.1 near.2).1
theorem nearest_z (z : Int) (s : Bool) (r : Nat) : (z - nz z).natAbs ≤ (z - sgn s (rv Ieee.single r * 2 ^ 925)).natAbs := by
  have h1 := nearest32 z.natAbs (r := r)
  have h2 := near_le z.natAbs
  generalize rv Ieee.single r * 2 ^ 925 = M at *
  unfold nz sgn
  generalize hK : KK z.natAbs = K at *
  split <;> split <;> omega
/-- a float32 is its own -/
theorem KK_own (r : Nat) : rr Ieee.single (rv Ieee.single r * 2 ^ 925) 925 = r := by
  have := rr_shift Ieee.single (rv Ieee.single r) 0 925
  rw [Nat.zero_add] at this
  rw [this, rr_idem]
theorem nz_own (s : Bool) (r : Nat) : nz (sgn s (rv Ieee.single r * 2 ^ 925)) = sgn s (rv Ieee.single r * 2 ^ 925) := by
  have h := nz_sgn s (sgn s (rv Ieee.single r * 2 ^ 925)) (by rw [natAbs_sgn])
  rw [h, natAbs_sgn, ← KK_rr, KK_own]
theorem sub_word {f : Ieee.Format} {x y : Nat} {z u : Int} (hx : IsF f x z) (hy : IsF f y u) :
    ∃ sg, f.sub x y = some (f.word sg (min (rr f (z - u).natAbs 0) f.infRung)) := by
  obtain ⟨s, m, p, e, hp, rfl⟩ := hx.read
  obtain ⟨t, n, q, e', hq, rfl⟩ := hy.read
  have he : (f.read y).opposite = .number (!t) n q := by rw [e']; rfl
  rw [Int.sub_eq_add_neg, ← sgn_not]
  unfold Ieee.Format.sub
  rw [e, he]
  simp only [Ieee.Datum.sum, signed_sgn]
  have k : ∀ i : Int, min p q ≤ i → 2 ^ (i - f.leastPlace).toNat = 2 ^ (i - min p q).toNat * 2 ^ (min p q - f.leastPlace).toNat := fun i hi => by
    rw [← Nat.pow_add]; congr 1; omega
  rw [k p (by omega), k q (by omega), ← Nat.mul_assoc, ← Nat.mul_assoc, sgn_mul s (m * _), sgn_mul (!t) (n * _), ← Int.add_mul]
  generalize sgn s (m * 2 ^ (p - min p q).toNat) + sgn (!t) (n * 2 ^ (q - min p q).toNat) = total at *
  refine ⟨if total = 0 then s && !t else decide (total < 0), ?_⟩
  show some (f.nearest _ total.natAbs (min p q)) = _
  rw [nearest_rr f _ total.natAbs 0 (min p q) (by omega), Int.natAbs_mul, Int.natAbs_natCast]
  simp
/-- what is subtracted, rounded, is no less than a number of the format that is no greater than the true difference -/
theorem sub_ge {x y : Nat} {z u L : Int} (hx : isD x z) (hy : isD y u) (hz : z.natAbs < BB) (hu : u.natAbs < BB) (hL : Rep Ieee.double L) (hle : L.natAbs ≤ (z - u).natAbs) (W : World) : ∃ v, isD (fres .sub x y W) v ∧ L.natAbs ≤ v.natAbs := by
  obtain ⟨sg, e⟩ := sub_word hx hy
  have hb : (z - u).natAbs ≤ 1 * 2 ^ 1203 * 2 ^ 0 := by
    have h1 := BB_lt
    have h2 : 1 * 2 ^ 1203 * 2 ^ 0 = 2 * 2 ^ 1202 := by rw [show 1203 = 1202 + 1 from rfl, Nat.pow_succ, Nat.pow_zero, Nat.mul_one, Nat.one_mul, Nat.mul_comm]
    rw [h2]
    generalize 2 ^ 1202 = P at *
    omega
  have hfin : rr Ieee.double (z - u).natAbs 0 < Ieee.double.infRung := by
    rcases Nat.lt_or_ge (rr Ieee.double (z - u).natAbs 0) Ieee.double.infRung with h1 | h1
    · exact h1
    · exfalso
      have h2 := rr_mono Ieee.double _ _ 0 hb
      have h3 := (rv_le_iff Ieee.double).2 (Nat.le_trans h1 h2)
      rw [rr_exact Ieee.double 1 1203 0 (by decide), dbl_inf, km_eq, Nat.one_mul, ← Nat.pow_add] at h3
      have h4 : 2 ^ 1203 < 2 ^ (52 + 2046) := Nat.pow_lt_pow_right (by decide) (by decide)
      exact absurd (Nat.lt_of_lt_of_le h4 h3) (Nat.lt_irrefl _)
  rw [Nat.min_eq_left (Nat.le_of_lt hfin)] at e
  refine ⟨sgn sg (rv Ieee.double (rr Ieee.double (z - u).natAbs 0)), ?_, ?_⟩
  · rw [fres_of (show floatBits .sub .f64 x y = some _ from e)]
    exact ⟨sg, _, rfl, hfin, rfl⟩
  · rw [natAbs_sgn]
    obtain ⟨⟨a, t, ea, ha⟩, _⟩ := hL
    have h1 := rr_exact Ieee.double a t 0 ha
    rw [Nat.pow_zero, Nat.mul_one, ← ea] at h1
    have h2 := (rv_le_iff Ieee.double).2 (rr_mono Ieee.double _ _ 0 hle)
    rw [h1] at h2
    exact h2
/-! ### float32 words -/
theorem kinds32 (x : Nat) (h : x < 2 ^ 32) : (Ieee.single.read x).isNaN = true ∨ (∃ s, x = Ieee.single.word s Ieee.single.infRung) ∨ ∃ s r, x = Ieee.single.word s r ∧ r < Ieee.single.infRung := by
  have h1 : Ieee.single.infRung = 2139095040 := by decide
  have h2 : Ieee.single.signWeight = 2147483648 := by decide
  have h3 : Ieee.single.binade = 8388608 := by decide
  have hx : x = Ieee.single.word (decide (2147483648 ≤ x)) (x % 2147483648) := by
    unfold Ieee.Format.word
    rw [h2]
    by_cases hs : 2147483648 ≤ x
    · rw [if_pos (by simpa using hs)]; omega
    · rw [if_neg (by simpa using hs)]; omega
  by_cases hl : x % 2147483648 < 2139095040
  · exact .inr (.inr ⟨_, _, hx, by rw [h1]; exact hl⟩)
  · by_cases he : x % 2147483648 = 2139095040
    · refine .inr (.inl ⟨decide (2147483648 ≤ x), ?_⟩)
      rw [h1, ← he]; exact hx
    · left
      unfold Ieee.Format.read
      rw [h1, h2, h3]
      have g1 : ¬ (x % 2147483648 < 8388608) := by omega
      simp only [g1, hl, he, if_false]
      rfl
theorem eq32 {s t : Bool} {r : Nat} (hr : r < Ieee.single.infRung) (h : sgn s (rv Ieee.single r * 2 ^ 925) = sgn t (rv Ieee.single r * 2 ^ 925)) : (FloatKind.f32.format.order (Ieee.single.word s r) (Ieee.single.word t r) != some .eq) = false := by
  have e : sgn s (rv Ieee.single r) = sgn t (rv Ieee.single r) := by
    rw [sgn_mul, sgn_mul] at h
    exact Int.eq_of_mul_eq_mul_right (by have := Nat.two_pow_pos 925; omega) h
  have : FloatKind.f32.format.order (Ieee.single.word s r) (Ieee.single.word t r) = some (compare (sgn s (rv Ieee.single r)) (sgn t (rv Ieee.single r))) := order_isF Ieee.single ⟨s, r, rfl, hr, rfl⟩ ⟨t, r, rfl, hr, rfl⟩
  rw [this, e]
  simp [compare, compareOfLessAndEq]
end Go.Proofs.Ytbhchnfdhdjfnaa

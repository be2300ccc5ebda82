/- The float32 nearest to a float, in plain numbers. -/
import Derived.Test.YtbhchnfdhdjfnaaPower
import Derived.Test.YtbhchnfdhdjfnaaTurn
namespace Go.Proofs.Ytbhchnfdhdjfnaa
set_option exponentiation.threshold 3000
open Go.RowKit Go.Mm
def gE (N : Nat) : Nat := 925 + (N.log2 - 948)
def KK (N : Nat) : Nat := rne N (2 ^ gE N) * 2 ^ gE N
@[irreducible] def BB : Nat := 33554431 * 2 ^ 1177
theorem KK_zero : KK 0 = 0 := by
  have := rne_mul 0 (2 ^ gE 0) (Nat.two_pow_pos _)
  rw [Nat.zero_mul] at this
  unfold KK; rw [this, Nat.zero_mul]
theorem KK_rr (N : Nat) : rv Ieee.single (rr Ieee.single N 925) * 2 ^ 925 = KK N := by
  by_cases h : N = 0
  · subst h
    rw [KK_zero, show rr Ieee.single 0 925 = 0 from by unfold rr; rw [if_pos rfl], rv_zero, Nat.zero_mul]
  · rw [rv_rr _ _ _ h, sgl_frac, Nat.mul_assoc, ← Nat.pow_add]
    unfold KK gE
    rw [show N.log2 - 925 - 23 = N.log2 - 948 from by omega, Nat.add_comm (N.log2 - 948)]
theorem rne_24 (N : Nat) : rne N (2 ^ gE N) ≤ 16777216 := by
  by_cases h : N = 0
  · subst h
    have := rne_mul 0 (2 ^ gE 0) (Nat.two_pow_pos _)
    rw [Nat.zero_mul] at this
    rw [this]; decide
  · have := (rr_kept Ieee.single N 925 h).1
    rw [sgl_frac, sgl_binade, show N.log2 - 925 - 23 = N.log2 - 948 from by omega] at this
    exact this
theorem BB_lt : BB < 2 ^ 1202 := by
  unfold BB
  rw [show 1202 = 25 + 1177 from rfl, Nat.pow_add 2 25 1177]
  exact Nat.mul_lt_mul_of_pos_right (by decide) (Nat.two_pow_pos _)
theorem log_lt {N k : Nat} (h : N < 2 ^ (k + 1)) : N.log2 ≤ k := by
  by_cases h0 : N = 0
  · subst h0; rw [Nat.log2_zero]; exact Nat.zero_le _
  · have := (Nat.log2_lt h0).2 h
    omega
theorem KK_lt {N : Nat} (h : N < BB) : KK N < 2 ^ 1202 := by
  have h1 : N.log2 ≤ 1201 := log_lt (Nat.lt_trans h BB_lt)
  unfold KK
  by_cases he : N.log2 ≤ 1200
  · have hg : gE N ≤ 1177 := by unfold gE; omega
    calc rne N (2 ^ gE N) * 2 ^ gE N ≤ 16777216 * 2 ^ 1177 := Nat.mul_le_mul (rne_24 N) (Nat.pow_le_pow_right (by decide) hg)
      _ = 2 ^ (24 + 1177) := by rw [Nat.pow_add]
      _ < 2 ^ 1202 := Nat.pow_lt_pow_right (by decide) (by decide)
  · have hg : gE N = 1 + 1177 := by unfold gE; omega
    rw [hg]
    have near := (rne_near N (2 ^ (1 + 1177)) (Nat.two_pow_pos _)).1
    have hB : BB = 33554431 * 2 ^ 1177 := by unfold BB; rfl
    rw [hB] at h
    have e1 : 2 ^ (1 + 1177) = 2 * 2 ^ 1177 := by rw [Nat.pow_add]
    have e2 : 2 ^ 1202 = 33554432 * 2 ^ 1177 := by rw [show 1202 = 25 + 1177 from rfl, Nat.pow_add 2 25 1177]
    rw [e2]
    rw [e1] at near ⊢
    generalize rne N (2 * 2 ^ 1177) = k at *
    have hp := Nat.two_pow_pos 1177
    generalize 2 ^ 1177 = G at *
    rw [Nat.mul_left_comm k 2 G] at near ⊢
    clear h1 he hg hB e1 e2
    have hk : k ≤ 16777215 := by
      rcases Nat.lt_or_ge k 16777216 with h3 | h3
      · omega
      · have := Nat.mul_le_mul_right G h3
        omega
    have := Nat.mul_le_mul_right G hk
    omega
theorem fin32 {N : Nat} (h : N < BB) : rr Ieee.single N 925 < Ieee.single.infRung := by
  rcases Nat.lt_or_ge (rr Ieee.single N 925) Ieee.single.infRung with h1 | h1
  · exact h1
  · exfalso
    have h2 := (rv_le_iff Ieee.single).2 h1
    have h3 := KK_lt h
    rw [← KK_rr] at h3
    rw [sgl_inf] at h2
    have h4 := Nat.mul_le_mul_right (2 ^ 925) h2
    rw [show 8388608 = 2 ^ 23 from rfl, Nat.mul_assoc, ← Nat.pow_add, ← Nat.pow_add] at h4
    have h5 : 2 ^ 1202 ≤ 2 ^ (23 + (254 + 925)) := Nat.pow_le_pow_right (by decide) (by decide)
    exact absurd (Nat.lt_of_lt_of_le h3 (Nat.le_trans h5 h4)) (Nat.lt_irrefl _)
theorem rep_KK {N : Nat} (h : N < BB) : Rep Ieee.double ((KK N : Nat) : Int) := by
  refine ⟨⟨rne N (2 ^ gE N), gE N, by rw [Int.natAbs_natCast]; rfl, by have := rne_24 N; rw [dbl_binade]; omega⟩, ?_⟩
  rw [Int.natAbs_natCast, dbl_inf, km_eq, ← Nat.pow_add]
  exact Nat.lt_of_lt_of_le (KK_lt h) (Nat.pow_le_pow_right (by decide) (by decide))
/-- the value of the nearest float32 -/
def nz (z : Int) : Int := if z < 0 then -((KK z.natAbs : Nat) : Int) else ((KK z.natAbs : Nat) : Int)
theorem nz_sgn (s : Bool) (z : Int) (h : z = sgn s z.natAbs) : nz z = sgn s (KK z.natAbs) := by
  by_cases h0 : z = 0
  · subst h0
    unfold nz sgn
    rw [show Int.natAbs 0 = 0 from rfl, KK_zero]; cases s <;> rfl
  · have : (z < 0) ↔ s = true := by
      revert h; unfold sgn; cases s <;> simp <;> omega
    unfold nz sgn
    cases s
    · rw [if_neg (by simpa using this), if_neg (by decide)]
    · rw [if_pos (by simpa using this), if_pos rfl]
theorem isD.rep {x : Nat} {z : Int} (h : isD x z) : Rep Ieee.double z := by
  obtain ⟨s, r, rfl, hr, rfl⟩ := h
  have h1 : (rv Ieee.double r : Nat) < rv Ieee.double Ieee.double.infRung := rv_strict _ hr
  refine ⟨?_, by rw [natAbs_sgn]; exact h1⟩
  rw [natAbs_sgn]
  unfold rv
  split
  · rename_i h; exact ⟨r, 0, by rw [Nat.pow_zero, Nat.mul_one], by omega⟩
  · exact ⟨_, _, rfl, by have := Nat.mod_lt r (binade_pos Ieee.double); omega⟩
theorem isD.uniq {x : Nat} {z u : Int} (h : isD x z) (k : isD x u) : z = u := by
  obtain ⟨s, m, p, e, _, rfl⟩ := h.read
  obtain ⟨t, n, q, e', _, rfl⟩ := k.read
  rw [e] at e'
  cases e'
  rfl
theorem rep_neg {z : Int} (h : Rep Ieee.double z) : Rep Ieee.double (-z) := by
  unfold Rep at *
  rwa [Int.natAbs_neg]
theorem rep_nz {z : Int} (h : z.natAbs < BB) : Rep Ieee.double (nz z) := by
  unfold nz
  split
  · exact rep_neg (rep_KK h)
  · exact rep_KK h
theorem rep_rest {z : Int} (h : Rep Ieee.double z) : Rep Ieee.double (z - nz z) := by
  have ha : Rep Ieee.double (z.natAbs : Int) := h.abs
  have := rep_lost (u := gE z.natAbs) ha
  have hk : rne z.natAbs (2 ^ gE z.natAbs) * 2 ^ gE z.natAbs = KK z.natAbs := rfl
  rw [hk] at this
  unfold nz
  split
  · rename_i hz
    have e : z - -((KK z.natAbs : Nat) : Int) = -((z.natAbs : Int) - ((KK z.natAbs : Nat) : Int)) := by omega
    rw [e]; exact rep_neg this
  · rename_i hz
    have e : z - ((KK z.natAbs : Nat) : Int) = ((z.natAbs : Int) - ((KK z.natAbs : Nat) : Int)) := by omega
    rw [e]; exact this
/-- to float32 and back -/
theorem there_back {x : Nat} {z : Int} (hx : isD x z) (h : z.natAbs < BB) : ∃ r y, floatToFloatBits .f64 x .f32 = some r ∧ floatToFloatBits .f32 r .f64 = some y ∧ isD y (nz z) := by
  obtain ⟨s, r, rfl, hz, e⟩ := to_single hx (fin32 h)
  obtain ⟨t, h1, h2⟩ := of_single s (fin32 h)
  rw [KK_rr, ← nz_sgn s z hz] at h2
  exact ⟨_, t, e, h1, h2⟩
/-! ### comparisons -/
theorem gt_d {x y : Nat} {z u : Int} (hx : isD x z) (hy : isD y u) : (FloatKind.f64.format.order x y == some .gt) = decide (u < z) := by
  have : FloatKind.f64.format.order x y = some (compare z u) := order_isF Ieee.double hx hy
  rw [this]
  rcases Int.lt_trichotomy z u with h | h | h
  · simp [compare, compareOfLessAndEq, h]; omega
  · subst h; simp [compare, compareOfLessAndEq]
  · have h1 : ¬ z < u := by omega
    have h2 : ¬ z = u := by omega
    simp [compare, compareOfLessAndEq, h1, h2, h]
theorem lt_d {x y : Nat} {z u : Int} (hx : isD x z) (hy : isD y u) : (FloatKind.f64.format.order x y == some .lt) = decide (z < u) := by
  have : FloatKind.f64.format.order x y = some (compare z u) := order_isF Ieee.double hx hy
  rw [this]
  rcases Int.lt_trichotomy z u with h | h | h
  · simp [compare, compareOfLessAndEq, h]
  · subst h; simp [compare, compareOfLessAndEq]
  · have h1 : ¬ z < u := by omega
    have h2 : ¬ z = u := by omega
    simp [compare, compareOfLessAndEq, h1, h2]
theorem eq_d {x y : Nat} {z u : Int} (hx : isD x z) (hy : isD y u) : (FloatKind.f64.format.order x y == some .eq) = decide (z = u) := by
  have : FloatKind.f64.format.order x y = some (compare z u) := order_isF Ieee.double hx hy
  rw [this]
  rcases Int.lt_trichotomy z u with h | h | h
  · have h2 : ¬ z = u := by omega
    simp [compare, compareOfLessAndEq, h, h2]
  · subst h; simp [compare, compareOfLessAndEq]
  · have h1 : ¬ z < u := by omega
    have h2 : ¬ z = u := by omega
    simp [compare, compareOfLessAndEq, h1, h2]
theorem neg_d {x : Nat} {z : Int} (h : isD x z) : isD (Op.negFloat .f64 x) (-z) := by
  obtain ⟨s, r, rfl, hr, rfl⟩ := h
  refine ⟨!s, r, ?_, hr, by rw [sgn_not]⟩
  have hlt : r < 2 ^ 63 := by
    have h1 := Ieee.double.infRung_lt
    have h2 : Ieee.double.signWeight = 2 ^ 63 := by decide
    omega
  have hs : Ieee.double.signWeight = 2 ^ 63 := by decide
  show (Ieee.double.word s r) ^^^ 2 ^ 63 = _
  unfold Ieee.Format.word
  rw [hs]
  cases s
  · simp only [Bool.false_eq_true, if_false, Bool.not_false, if_true]
    exact xor_top 63 r hlt
  · simp only [if_true, Bool.not_true, Bool.false_eq_true, if_false]
    rw [← xor_top 63 r hlt, Nat.xor_assoc, Nat.xor_self, Nat.xor_zero]
/-! ### what kinds there are -/
theorem kinds (x : Nat) (h : x < 2 ^ 64) : (Ieee.double.read x).isNaN = true ∨ (∃ s, x = Ieee.double.word s Ieee.double.infRung) ∨ ∃ z, isD x z := by
  have h1 : Ieee.double.infRung = 9218868437227405312 := by decide
  have h2 : Ieee.double.signWeight = 9223372036854775808 := by decide
  have h3 : Ieee.double.binade = 4503599627370496 := by decide
  have hx : x = Ieee.double.word (decide (9223372036854775808 ≤ x)) (x % 9223372036854775808) := by
    unfold Ieee.Format.word
    rw [h2]
    by_cases hs : 9223372036854775808 ≤ x
    · rw [if_pos (by simpa using hs)]; omega
    · rw [if_neg (by simpa using hs)]; omega
  by_cases hl : x % 9223372036854775808 < 9218868437227405312
  · exact .inr (.inr ⟨_, _, _, hx, by rw [h1]; exact hl, rfl⟩)
  · by_cases he : x % 9223372036854775808 = 9218868437227405312
    · refine .inr (.inl ⟨decide (9223372036854775808 ≤ x), ?_⟩)
      rw [h1, ← he]; exact hx
    · left
      unfold Ieee.Format.read
      rw [h1, h2, h3]
      have g1 : ¬ (x % 9223372036854775808 < 4503599627370496) := by omega
      simp only [g1, hl, he, if_false]
      rfl
/-! ### cut to a whole number -/
theorem cut_zero (neg : Bool) (n drop : Nat) : Ieee.Toward.zero.cut neg n drop = n / 2 ^ drop := by
  unfold Ieee.Toward.cut
  simp only [Nat.one_shiftLeft, Bool.toNat_false, Nat.add_zero]
  rcases Nat.le_total drop (n.log2 + 2) with h | h
  · rw [Nat.min_eq_left h]
  · rw [Nat.min_eq_right h]
    have hlt : n < 2 ^ (n.log2 + 1) := Nat.lt_log2_self
    have e1 : 2 ^ (n.log2 + 1) ≤ 2 ^ (n.log2 + 2) := Nat.pow_le_pow_right (by decide) (by omega)
    have e2 : 2 ^ (n.log2 + 2) ≤ 2 ^ drop := Nat.pow_le_pow_right (by decide) h
    rw [Nat.div_eq_of_lt (by omega), Nat.div_eq_of_lt (by omega)]
theorem toInt_d {x : Nat} {N : Nat} (h : isD x (N : Int)) (hU : N / 2 ^ kp ≤ 9223372036854775807) : floatToIntVal .f64 x .i64 = some ((N / 2 ^ kp : Nat) : Int) := by
  obtain ⟨s, m, p, e, hp, hz⟩ := h.read
  have hN : N = m * 2 ^ (p - Ieee.double.leastPlace).toNat := by
    have := congrArg Int.natAbs hz
    rwa [natAbs_sgn, Int.natAbs_natCast] at this
  have hcut : (m <<< p.toNat) / 2 ^ (-p).toNat = N / 2 ^ kp := by
    rw [dbl_least] at hN hp
    rw [Nat.shiftLeft_eq, hN]
    by_cases h0 : 0 ≤ p
    · rw [show (-p).toNat = 0 from by omega, Nat.pow_zero, Nat.div_one, show (p - -(kp : Int)).toNat = p.toNat + kp from by omega, Nat.pow_add, ← Nat.mul_assoc, Nat.mul_div_cancel _ (Nat.two_pow_pos _)]
    · obtain ⟨q, rfl⟩ : ∃ q : Nat, p = -(q : Int) := ⟨p.natAbs, by omega⟩
      have hq : q ≤ kp := by omega
      rw [show (-(q : Int)).toNat = 0 from by omega, Nat.pow_zero, Nat.mul_one, show (- -(q : Int)).toNat = q from by omega, show (-(q : Int) - -(kp : Int)).toNat = kp - q from by omega]
      conv => rhs; rw [show 2 ^ kp = 2 ^ q * 2 ^ (kp - q) from by rw [← Nat.pow_add]; congr 1; omega]
      rw [Nat.mul_div_mul_right _ _ (Nat.two_pow_pos _)]
  have hs : sgn s (N / 2 ^ kp) = ((N / 2 ^ kp : Nat) : Int) := by
    unfold sgn at hz ⊢
    cases s
    · rfl
    · rw [if_pos rfl] at hz ⊢
      have : N = 0 := by omega
      subst this
      rw [Nat.zero_div]; rfl
  have hi : (FloatKind.f64.decode x).toInt .zero = some ((N / 2 ^ kp : Nat) : Int) := by
    rw [show FloatKind.f64.decode x = .number s m p from e]
    unfold Ieee.Datum.toInt Ieee.Datum.integral
    dsimp only
    rw [cut_zero, signed_sgn, hcut, Nat.pow_zero, Nat.mul_one, hs]
  unfold floatToIntVal
  rw [hi]
  dsimp only
  rw [if_pos]
  have e1 : IntKind.i64.min = -9223372036854775808 := by decide
  have e2 : IntKind.i64.max = 9223372036854775807 := by decide
  rw [e1, e2]
  generalize N / 2 ^ kp = u at *
  omega
/-! ### the quotient by the unit -/
theorem quo_val {N : Nat} (h : Rep Ieee.double (N : Int)) : ∃ v : Nat, v * 2 ^ gE N = N * 2 ^ kp ∧ Rep Ieee.double (v : Int) ∧ Rep Ieee.double (((v % 2 ^ kp : Nat)) : Int) := by
  obtain ⟨⟨a, t, e, ha⟩, _⟩ := h
  rw [Int.natAbs_natCast] at e
  rw [dbl_binade] at ha
  have hk := kp_eq
  have hlt : gE N ≤ t + kp := by
    unfold gE
    by_cases h0 : N.log2 ≤ 948
    · omega
    · have hN : N ≠ 0 := by rintro rfl; rw [Nat.log2_zero] at h0; omega
      have h1 : 2 ^ N.log2 ≤ N := Nat.log2_self_le hN
      have h2 : N < 2 ^ (53 + t) := by
        rw [e, Nat.pow_add]
        exact Nat.mul_lt_mul_of_pos_right (by omega) (Nat.two_pow_pos _)
      have h3 : N.log2 < 53 + t := (Nat.pow_lt_pow_iff_right (by decide)).1 (Nat.lt_of_le_of_lt h1 h2)
      omega
  have hv : a * 2 ^ (t + kp - gE N) * 2 ^ gE N = N * 2 ^ kp := by
    rw [Nat.mul_assoc, ← Nat.pow_add, show t + kp - gE N + gE N = t + kp from by omega, Nat.pow_add, ← Nat.mul_assoc, ← e]
  have hb : a * 2 ^ (t + kp - gE N) < 2 ^ (52 + km) := by
    have h1 : N < 2 ^ (N.log2 + 1) := Nat.lt_log2_self
    have h2 : N * 2 ^ kp < 2 ^ (N.log2 + 1) * 2 ^ kp := Nat.mul_lt_mul_of_pos_right h1 (Nat.two_pow_pos _)
    rw [← hv, ← Nat.pow_add] at h2
    have h3 : 2 ^ (N.log2 + 1 + kp) ≤ 2 ^ (52 + km) * 2 ^ gE N := by
      rw [← Nat.pow_add]
      refine Nat.pow_le_pow_right (by decide) ?_
      have := km_eq
      unfold gE; omega
    exact Nat.lt_of_mul_lt_mul_right (Nat.lt_of_lt_of_le h2 h3)
  refine ⟨a * 2 ^ (t + kp - gE N), hv, ⟨⟨a, _, by rw [Int.natAbs_natCast], by rw [dbl_binade]; exact ha⟩, by rw [Int.natAbs_natCast, dbl_inf, ← Nat.pow_add]; exact hb⟩, ?_⟩
  refine ⟨?_, by rw [Int.natAbs_natCast, dbl_inf, ← Nat.pow_add]; exact Nat.lt_of_le_of_lt (Nat.mod_le _ _) hb⟩
  rw [Int.natAbs_natCast, dbl_binade]
  generalize t + kp - gE N = q
  by_cases hq : kp ≤ q
  · refine ⟨0, 0, ?_, by omega⟩
    obtain ⟨c, rfl⟩ : ∃ c, q = c + kp := ⟨q - kp, by omega⟩
    have e2 : a * 2 ^ (c + kp) = a * 2 ^ c * 2 ^ kp := by rw [Nat.pow_add, Nat.mul_assoc]
    rw [e2]
    exact Nat.mul_mod_left _ _
  · refine ⟨a % 2 ^ (kp - q), q, ?_, by have := Nat.mod_le a (2 ^ (kp - q)); omega⟩
    have e2 : 2 ^ kp = 2 ^ (kp - q) * 2 ^ q := by rw [← Nat.pow_add, Nat.sub_add_cancel (Nat.le_of_lt (Nat.lt_of_not_le hq))]
    rw [e2]
    exact Nat.mul_mod_mul_right ..
theorem rne_quo {N v : Nat} (h : v * 2 ^ gE N = N * 2 ^ kp) : rne N (2 ^ gE N) = v / 2 ^ kp + if 2 ^ kp < 2 * (v % 2 ^ kp) ∨ (2 ^ kp = 2 * (v % 2 ^ kp) ∧ v / 2 ^ kp % 2 = 1) then 1 else 0 := by
  have h1 := rne_scale N (2 ^ gE N) (2 ^ kp) (Nat.two_pow_pos _)
  have h2 := rne_scale v (2 ^ kp) (2 ^ gE N) (Nat.two_pow_pos _)
  rw [← h1, ← h, Nat.mul_comm (2 ^ gE N), h2]
  rfl
end Go.Proofs.Ytbhchnfdhdjfnaa

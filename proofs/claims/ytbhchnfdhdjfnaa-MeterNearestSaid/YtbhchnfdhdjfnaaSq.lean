/- Rounded squares and their sums: plain numbers. -/
import Derived.Test.YtbhchnfdhdjfnaaTwo
namespace Go.Proofs.Ytbhchnfdhdjfnaa
open Go.RowKit Go.Mm

/-! ### squares, sums and their bounds, rounded -/
section
variable (f : Ieee.Format)
theorem rr_shift (N b c : Nat) : rr f (N * 2 ^ c) (b + c) = rr f N b := by
  unfold rr
  by_cases h0 : N = 0
  · simp [h0]
  · have hp : N * 2 ^ c ≠ 0 := Nat.mul_ne_zero h0 (by have := Nat.two_pow_pos c; omega)
    rw [if_neg h0, if_neg hp]
    have hlog : (N * 2 ^ c).log2 = N.log2 + c := by
      rw [Nat.log2_eq_iff hp]
      obtain ⟨h1, h2⟩ := log2_bounds N h0
      constructor
      · rw [Nat.pow_add]; exact Nat.mul_le_mul_right _ h1
      · rw [show N.log2 + c + 1 = (N.log2 + 1) + c from by omega, Nat.pow_add 2 (N.log2 + 1)]; exact Nat.mul_lt_mul_of_pos_right h2 (Nat.two_pow_pos _)
    rw [hlog, show N.log2 + c - (b + c) - f.fractionBits = N.log2 - b - f.fractionBits from by omega, show b + c + (N.log2 - b - f.fractionBits) = (b + (N.log2 - b - f.fractionBits)) + c from by omega, Nat.pow_add 2 (b + _), rne_scale _ _ _ (Nat.two_pow_pos _)]

/-- rounding lifts a number by no more than its 2 ^ (fraction bits + 1)-th part -/
theorem rr_up (N b : Nat) : rv f (rr f N b) * 2 ^ b * 2 ^ (f.fractionBits + 1) ≤ N * (2 ^ (f.fractionBits + 1) + 1) ∨ rv f (rr f N b) * 2 ^ (b + 1) ≤ 2 * N + 2 ^ b := by
  by_cases h0 : N = 0
  · left; subst h0; simp [rr, rv_zero]
  · rw [rv_rr f N b h0]
    have h1 : 2 ^ N.log2 ≤ N := Nat.log2_self_le h0
    have hn := (rne_near N (2 ^ (b + (N.log2 - b - f.fractionBits))) (Nat.two_pow_pos _)).1
    by_cases hq : N.log2 - b - f.fractionBits = 0
    · right
      rw [hq] at hn ⊢
      simp only [Nat.add_zero, Nat.pow_zero, Nat.mul_one] at hn ⊢
      rw [Nat.pow_succ]
      have : rne N (2 ^ b) * (2 ^ b * 2) = 2 * (rne N (2 ^ b) * 2 ^ b) := by rw [← Nat.mul_assoc, Nat.mul_comm]
      omega
    · left
      generalize hqq : N.log2 - b - f.fractionBits = q at *
      have e : 2 ^ (b + q) * 2 ^ f.fractionBits ≤ N := by rw [← Nat.pow_add, show b + q + f.fractionBits = N.log2 from by omega]; exact h1
      have e1 : rne N (2 ^ (b + q)) * 2 ^ q * 2 ^ b = rne N (2 ^ (b + q)) * 2 ^ (b + q) := by rw [Nat.mul_assoc, ← Nat.pow_add, Nat.add_comm q]
      rw [e1, Nat.pow_succ]
      generalize rne N (2 ^ (b + q)) * 2 ^ (b + q) = X at *
      generalize 2 ^ (b + q) = Y at *
      generalize 2 ^ f.fractionBits = Z at *
      have h3 : 2 * X * Z ≤ (2 * N + Y) * Z := Nat.mul_le_mul_right _ hn
      rw [Nat.add_mul] at h3
      have h4 : X * (Z * 2) = 2 * X * Z := by rw [Nat.mul_comm Z 2, ← Nat.mul_assoc, Nat.mul_comm X 2]
      have h5 : N * (Z * 2 + 1) = 2 * N * Z + N := by rw [Nat.mul_add, Nat.mul_one, Nat.mul_comm Z 2, ← Nat.mul_assoc, Nat.mul_comm N 2]
      omega

theorem nearest_isF (s : Bool) (mag b : Nat) (p : Int) (hp : 0 ≤ p - f.leastPlace + b) (hfin : rr f (mag * 2 ^ (p - f.leastPlace + b).toNat) b < f.infRung) :
    IsF f (f.nearest s mag p) (sgn s (rv f (rr f (mag * 2 ^ (p - f.leastPlace + b).toNat) b))) := by
  rw [nearest_rr f s mag b p hp, Nat.min_eq_left (Nat.le_of_lt hfin)]
  exact ⟨s, _, rfl, hfin, rfl⟩
theorem mul_word {x y : Nat} {z u : Int} (hx : IsF f x z) (hy : IsF f y u) (hL : f.leastPlace ≤ 0) :
    ∃ sg, f.mul x y = some (f.word sg (min (rr f (z.natAbs * u.natAbs) (-f.leastPlace).toNat) f.infRung)) ∧ (x = y → sg = false) := by
  obtain ⟨s, m, p, e, hp, rfl⟩ := hx.read
  obtain ⟨t, n, q, e', hq, rfl⟩ := hy.read
  unfold Ieee.Format.mul
  rw [e, e']
  refine ⟨s ^^ t, ?_, ?_⟩
  · show some (f.nearest (s ^^ t) (m * n) (p + q)) = _
    rw [nearest_rr f (s ^^ t) (m * n) (-f.leastPlace).toNat (p + q) (by omega), natAbs_sgn, natAbs_sgn]
    congr 3
    rw [show (p + q - f.leastPlace + ((-f.leastPlace).toNat : Int)).toNat = (p - f.leastPlace).toNat + (q - f.leastPlace).toNat from by omega, Nat.pow_add]
    simp only [Nat.mul_assoc, Nat.mul_left_comm]
  · rintro rfl
    rw [e] at e'
    cases e'
    simp
theorem add_word {x y : Nat} {z u : Int} (hx : IsF f x z) (hy : IsF f y u) :
    ∃ sg, f.add x y = some (f.word sg (min (rr f (z + u).natAbs 0) f.infRung)) ∧ (0 < z + u → sg = false) := by
  obtain ⟨s, m, p, e, hp, rfl⟩ := hx.read
  obtain ⟨t, n, q, e', hq, rfl⟩ := hy.read
  unfold Ieee.Format.add
  rw [e, e']
  simp only [Ieee.Datum.sum, signed_sgn]
  have k : ∀ i : Int, min p q ≤ i → 2 ^ (i - f.leastPlace).toNat = 2 ^ (i - min p q).toNat * 2 ^ (min p q - f.leastPlace).toNat := fun i hi => by
    rw [← Nat.pow_add]; congr 1; omega
  rw [k p (by omega), k q (by omega), ← Nat.mul_assoc, ← Nat.mul_assoc, sgn_mul s (m * _), sgn_mul t (n * _), ← Int.add_mul]
  generalize sgn s (m * 2 ^ (p - min p q).toNat) + sgn t (n * 2 ^ (q - min p q).toNat) = total at *
  refine ⟨if total = 0 then s && t else decide (total < 0), ?_, ?_⟩
  · show some (f.nearest _ total.natAbs (min p q)) = _
    rw [nearest_rr f _ total.natAbs 0 (min p q) (by omega), Int.natAbs_mul, Int.natAbs_natCast]
    simp
  · intro h
    have hc : (0 : Int) < ((2 ^ (min p q - f.leastPlace).toNat : Nat) : Int) := by have := Nat.two_pow_pos (min p q - f.leastPlace).toNat; omega
    have : 0 < total := Int.pos_of_mul_pos_left h hc
    rw [if_neg (by omega)]; simp; omega
theorem sum_comm' (d e : Ieee.Datum) : d.sum e = e.sum d := by
  cases d <;> cases e <;> simp only [Ieee.Datum.sum]
  · rename_i s m i t n j
    rw [Int.min_comm i j, Int.add_comm, Bool.and_comm]
  · rename_i s t
    by_cases h : s = t
    · rw [if_pos h, if_pos h.symm, h]
    · rw [if_neg h, if_neg (Ne.symm h)]
theorem add_comm' (x y : Nat) : f.add x y = f.add y x := by unfold Ieee.Format.add; rw [sum_comm']
end

theorem rr_idem (f : Ieee.Format) (r : Nat) : rr f (rv f r) 0 = r := by
  have hb := binade_pos f
  refine rv_inj f ?_
  unfold rv
  by_cases h : r < f.binade
  · rw [if_pos h]
    have := rr_exact f r 0 0 (by omega)
    simp only [Nat.pow_zero, Nat.mul_one] at this
    exact this
  · rw [if_neg h]
    have hm := Nat.mod_lt r hb
    have := rr_exact f (f.binade + r % f.binade) (r / f.binade - 1) 0 (by omega)
    rw [Nat.pow_zero, Nat.mul_one] at this
    exact this

/-- a whole number r, rounded, in least places -/
def gr (r : Nat) : Nat := rv Ieee.double (rr Ieee.double (r * 2 ^ kp) 0)
theorem gr_mono {r s : Nat} (h : r ≤ s) : gr r ≤ gr s := (rv_le_iff _).2 (rr_mono _ _ _ _ (Nat.mul_le_mul_right _ h))
theorem gr_up (r : Nat) : gr r * 9007199254740992 ≤ r * 2 ^ kp * 9007199254740993 := by
  have h53 : 2 ^ (Ieee.double.fractionBits + 1) = 9007199254740992 := by decide
  rcases rr_up Ieee.double (r * 2 ^ kp) 0 with h | h
  · rw [h53, Nat.pow_zero, Nat.mul_one] at h
    exact h
  · unfold gr
    simp only [Nat.zero_add, Nat.pow_one, Nat.pow_zero] at h
    generalize rv Ieee.double (rr Ieee.double (r * 2 ^ kp) 0) = g at *
    generalize r * 2 ^ kp = X at *
    omega
theorem gr_fin (r : Nat) (h : r ≤ 2 ^ 100) : rr Ieee.double (r * 2 ^ kp) 0 < Ieee.double.infRung := by
  rcases Nat.lt_or_ge (rr Ieee.double (r * 2 ^ kp) 0) Ieee.double.infRung with h1 | h1
  · exact h1
  · exfalso
    have h2 := rr_mono Ieee.double (r * 2 ^ kp) (1 * 2 ^ (100 + kp)) 0 (by rw [Nat.one_mul, Nat.pow_add]; exact Nat.mul_le_mul_right _ h)
    have h3 := rr_exact Ieee.double 1 (100 + kp) 0 (by decide)
    rw [Nat.pow_zero, Nat.mul_one] at h3
    have h4 := (rv_le_iff Ieee.double).2 (Nat.le_trans h1 h2)
    rw [h3, dbl_inf, Nat.one_mul, ← Nat.pow_add] at h4
    have h5 : 2 ^ (100 + kp) < 2 ^ (52 + km) := Nat.pow_lt_pow_right (by decide) (by have := kp_eq; have := km_eq; omega)
    omega
theorem Dy.square {x : Nat} {k : Int} (h : Dy x k 0) (hk : k.natAbs ≤ 2 ^ 50) : ∃ p, floatBits .mul .f64 x x = some p ∧ IsF Ieee.double p (gr (k.natAbs * k.natAbs)) ∧ p = Ieee.double.word false (rr Ieee.double (k.natAbs * k.natAbs * 2 ^ kp) 0) := by
  obtain ⟨sg, e, hs⟩ := mul_word Ieee.double h.2 h.2 (by decide)
  obtain rfl := hs rfl
  rw [dbl_up, Int.natAbs_mul, Int.natAbs_natCast, Nat.sub_zero] at e
  have e2 : k.natAbs * 2 ^ kp * (k.natAbs * 2 ^ kp) = k.natAbs * k.natAbs * 2 ^ kp * 2 ^ kp := by
    simp only [Nat.mul_assoc, Nat.mul_left_comm]
  have e3 := rr_shift Ieee.double (k.natAbs * k.natAbs * 2 ^ kp) 0 kp
  rw [Nat.zero_add] at e3
  rw [e2, e3] at e
  have hfin := gr_fin (k.natAbs * k.natAbs) (by
    have := Nat.mul_le_mul hk hk
    rw [← Nat.pow_add] at this; exact this)
  rw [Nat.min_eq_left (Nat.le_of_lt hfin)] at e
  exact ⟨_, e, ⟨false, _, rfl, hfin, rfl⟩, rfl⟩
theorem s4_aux {A B C M : Nat} (s1 : A ≤ C * 17592186044416) (s2 : B ≤ C * 17592186044416) (s3 : A + B + 2 * C ≤ M) : (A + B) * 9007199254740993 ≤ M * 9007199254740992 := by omega
theorem Dy.lean {x y n : Nat} {k l : Int} {m : Nat} (hx : Dy x k 0) (hy : Dy y l 0) (hn : Dy n (m : Int) 0) (hkl : k.natAbs + l.natAbs ≤ m) (hm : m ≤ 17592186044416) :
    ∃ p q s r, floatBits .mul .f64 x x = some p ∧ floatBits .mul .f64 y y = some q ∧ floatBits .add .f64 p q = some s ∧ floatBits .mul .f64 n n = some r ∧ (FloatKind.f64.format.order s r == some .lt || FloatKind.f64.format.order s r == some .eq) = true := by
  have h50 : (2 : Nat) ^ 50 = 1125899906842624 := by decide
  obtain ⟨p, e1, f1, _⟩ := hx.square (by omega)
  obtain ⟨q, e2, f2, _⟩ := hy.square (by omega)
  obtain ⟨r, e4, f4, _⟩ := hn.square (by rw [Int.natAbs_natCast]; omega)
  rw [Int.natAbs_natCast] at f4
  obtain ⟨sg, e3, hsg⟩ := add_word Ieee.double f1 f2
  have habs : ((gr (k.natAbs * k.natAbs) : Int) + (gr (l.natAbs * l.natAbs) : Int)).natAbs = gr (k.natAbs * k.natAbs) + gr (l.natAbs * l.natAbs) := by omega
  rw [habs] at e3
  generalize k.natAbs = a at *
  generalize l.natAbs = b at *
  have key : rr Ieee.double (gr (a * a) + gr (b * b)) 0 ≤ rr Ieee.double (m * m * 2 ^ kp) 0 := by
    by_cases ha : a = 0
    · subst ha
      have h0 : gr (0 * 0) = 0 := by unfold gr; simp [rr, rv_zero]
      rw [h0, Nat.zero_add]
      unfold gr
      rw [rr_idem]
      exact rr_mono _ _ _ _ (Nat.mul_le_mul_right _ (Nat.mul_le_mul (by omega) (by omega)))
    · by_cases hb : b = 0
      · subst hb
        have h0 : gr (0 * 0) = 0 := by unfold gr; simp [rr, rv_zero]
        rw [h0, Nat.add_zero]
        unfold gr
        rw [rr_idem]
        exact rr_mono _ _ _ _ (Nat.mul_le_mul_right _ (Nat.mul_le_mul (by omega) (by omega)))
      · refine rr_mono _ _ _ _ ?_
        have u1 := gr_up (a * a)
        have u2 := gr_up (b * b)
        have s1 : a * a ≤ a * b * 17592186044416 := by
          rw [Nat.mul_assoc]; exact Nat.mul_le_mul_left _ (by omega)
        have s2 : b * b ≤ a * b * 17592186044416 := by
          rw [Nat.mul_comm a b, Nat.mul_assoc]; exact Nat.mul_le_mul_left _ (by omega)
        have s3 : a * a + b * b + 2 * (a * b) ≤ m * m := by
          have := Nat.mul_le_mul hkl hkl
          rw [Nat.add_mul, Nat.mul_add, Nat.mul_add, Nat.mul_comm b a] at this
          omega
        generalize gr (a * a) = G at *
        generalize gr (b * b) = G' at *
        generalize a * a = A at *
        generalize b * b = B at *
        generalize a * b = C at *
        generalize m * m = M at *
        have s4 := s4_aux s1 s2 s3
        have s5 := Nat.mul_le_mul_right (2 ^ kp) s4
        have x1 : A * 2 ^ kp * 9007199254740993 + B * 2 ^ kp * 9007199254740993 = (A + B) * 9007199254740993 * 2 ^ kp := by
          rw [Nat.mul_right_comm A, Nat.mul_right_comm B, ← Nat.add_mul, ← Nat.add_mul]
        have x2 : M * 9007199254740992 * 2 ^ kp = M * 2 ^ kp * 9007199254740992 := Nat.mul_right_comm ..
        generalize M * 2 ^ kp = MM at *
        omega
  have hfin : rr Ieee.double (m * m * 2 ^ kp) 0 < Ieee.double.infRung := gr_fin _ (by
    have := Nat.mul_le_mul (show m ≤ 2 ^ 50 by omega) (show m ≤ 2 ^ 50 by omega)
    rw [← Nat.pow_add] at this; exact this)
  have hfin' := Nat.lt_of_le_of_lt key hfin
  rw [Nat.min_eq_left (Nat.le_of_lt hfin')] at e3
  have f3 : IsF Ieee.double (Ieee.double.word sg (rr Ieee.double (gr (a * a) + gr (b * b)) 0)) (rv Ieee.double (rr Ieee.double (gr (a * a) + gr (b * b)) 0)) := by
    refine ⟨sg, _, rfl, hfin', ?_⟩
    rcases Nat.eq_zero_or_pos (gr (a * a) + gr (b * b)) with h | h
    · rw [h]; unfold sgn; simp [rr, rv_zero]
    · obtain rfl := hsg (by omega)
      rfl
  refine ⟨p, q, _, r, e1, e2, e3, e4, ?_⟩
  have ho : FloatKind.f64.format.order (Ieee.double.word sg (rr Ieee.double (gr (a * a) + gr (b * b)) 0)) r = Ieee.double.order (Ieee.double.word sg (rr Ieee.double (gr (a * a) + gr (b * b)) 0)) r := rfl
  rw [ho, order_isF Ieee.double f3 f4]
  have hle : (rv Ieee.double (rr Ieee.double (gr (a * a) + gr (b * b)) 0) : Int) ≤ (gr (m * m) : Int) := by
    exact Int.ofNat_le.2 ((rv_le_iff Ieee.double).2 key)
  generalize (rv Ieee.double (rr Ieee.double (gr (a * a) + gr (b * b)) 0) : Int) = u at *
  generalize (gr (m * m) : Int) = v at *
  rcases Int.lt_or_eq_of_le hle with h | h
  · simp [compare, compareOfLessAndEq, h]
  · simp [compare, compareOfLessAndEq, h]
end Go.Proofs.Ytbhchnfdhdjfnaa

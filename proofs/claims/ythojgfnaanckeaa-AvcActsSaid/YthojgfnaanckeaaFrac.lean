/- A quotient of small whole numbers, less than 1: rounded it lies between 0 and 1. Plain. -/
import Derived.Test.YthojgfnaanckeaaAlive
namespace Go.Proofs.Ythojgfnaanckeaa
open Go.RowKit
theorem frac_fin {a1 a2 a3 a4 a5 A T : Nat} (h3 : A ≤ a2) (h4 : a4 ≤ T) (h5 : T ≤ a3) : a1 + A + a4 ≤ a1 + (a2 + a3) + a5 := by omega
theorem frac_aux {A B T X : Nat} (hX : X * 18014398509481984 ≤ A) (h1 : A + T ≤ B) (h2 : B ≤ T * 17592186044416) : (A + X) * 35184372088832 ≤ 35184372088831 * B := by
  have h3 : A ≤ 17592186044416 * T := by omega
  have h4 : X * 35184372088832 ≤ 34359738368 * T := by
    refine Nat.le_of_mul_le_mul_right ?_ (show 0 < 512 by decide)
    have e : X * 35184372088832 * 512 = X * 18014398509481984 := Nat.mul_assoc ..
    have e2 : 34359738368 * T * 512 = 17592186044416 * T := by rw [Nat.mul_right_comm]
    rw [e, e2]
    exact Nat.le_trans hX h3
  obtain ⟨d, rfl⟩ : ∃ d, B = A + T + d := ⟨B - (A + T), by omega⟩
  clear hX h1 h2
  rw [Nat.add_mul, Nat.mul_add, Nat.mul_add]
  have e : A * 35184372088832 = 35184372088831 * A + A := by omega
  have e2 : 35184372088831 * T = 17592186044416 * T + 17592186044415 * T := by omega
  rw [e, e2]
  have h5 : 34359738368 * T ≤ 17592186044415 * T := Nat.mul_le_mul_right T (by decide)
  exact frac_fin h3 h4 h5
theorem frac_le {h a T : Nat} {X : Nat} (h0 : h < a) (ha : a ≤ 17592186044416) (hX : X * 18014398509481984 ≤ T * h) : (T * h + X) * 35184372088832 ≤ 35184372088831 * (T * a) := by
  have h1 : T * h + T ≤ T * a := by
    have := Nat.mul_le_mul_left T h0
    rwa [Nat.succ_eq_add_one, Nat.mul_add, Nat.mul_one] at this
  have h2 : T * a ≤ T * 17592186044416 := Nat.mul_le_mul_left T ha
  exact frac_aux hX h1 h2
theorem more_le {m n F : Nat} (hm : m ≠ 0) : n * 2 ^ (F + 2) ≤ 2 * (m * 2 ^ (F + 2 + n.log2 - m.log2)) := by
  have h1 : n < 2 ^ (n.log2 + 1) := Nat.lt_log2_self
  have h2 : 2 ^ m.log2 ≤ m := Nat.log2_self_le hm
  have h3 : 2 ^ m.log2 * 2 ^ (F + 2 + n.log2 - m.log2) ≤ m * 2 ^ (F + 2 + n.log2 - m.log2) := Nat.mul_le_mul_right _ h2
  have h4 : 2 ^ (n.log2 + 1) * 2 ^ (F + 2) ≤ 2 * (2 ^ m.log2 * 2 ^ (F + 2 + n.log2 - m.log2)) := by
    rw [← Nat.pow_add, ← Nat.pow_add, show 2 * 2 ^ (m.log2 + (F + 2 + n.log2 - m.log2)) = 2 ^ (m.log2 + (F + 2 + n.log2 - m.log2) + 1) from by rw [Nat.pow_succ, Nat.mul_comm]]
    exact Nat.pow_le_pow_right (by decide) (by omega)
  have h5 : n * 2 ^ (F + 2) ≤ 2 ^ (n.log2 + 1) * 2 ^ (F + 2) := Nat.mul_le_mul_right _ (Nat.le_of_lt h1)
  omega
theorem frac {h a : Nat} (h0 : 0 < h) (hlt : h < a) (ha : a ≤ 17592186044416) : ∃ r V, floatBits .quo .f64 (floatOfInt .f64 ((h : Nat) : Int)) (floatOfInt .f64 ((a : Nat) : Int)) = some r ∧ IsF Ieee.double r ((V : Nat) : Int) ∧ 0 < V ∧ V < 2 ^ kp := by
  have X := (Dy.ofInt ((h : Nat) : Int) (by rw [Int.natAbs_natCast]; omega)).2
  have Y := (Dy.ofInt ((a : Nat) : Int) (by rw [Int.natAbs_natCast]; omega)).2
  obtain ⟨s, m, p, e, hp, hz⟩ := X.read
  obtain ⟨t, n, q, e', hq, hu⟩ := Y.read
  have hP : h * 2 ^ kp = m * 2 ^ (p - Ieee.double.leastPlace).toNat := by
    have := congrArg Int.natAbs hz
    rwa [natAbs_sgn, Int.natAbs_mul, Int.natAbs_natCast, Int.natAbs_natCast, Nat.sub_zero] at this
  have hQ : a * 2 ^ kp = n * 2 ^ (q - Ieee.double.leastPlace).toNat := by
    have := congrArg Int.natAbs hu
    rwa [natAbs_sgn, Int.natAbs_mul, Int.natAbs_natCast, Int.natAbs_natCast, Nat.sub_zero] at this
  have kpos := Nat.two_pow_pos kp
  have hm : m ≠ 0 := by
    rintro rfl
    rw [Nat.zero_mul] at hP
    have := Nat.mul_pos h0 kpos
    omega
  have hn : n ≠ 0 := by
    rintro rfl
    rw [Nat.zero_mul] at hQ
    have := Nat.mul_pos (show 0 < a by omega) kpos
    omega
  have hs : s = false := by
    cases s
    · rfl
    · exfalso
      have h1 : (0 : Int) < ((h : Nat) : Int) * ((2 ^ (kp - 0) : Nat) : Int) := Int.mul_pos (by omega) (by have := Nat.two_pow_pos (kp - 0); omega)
      rw [hz] at h1
      unfold sgn at h1
      rw [if_pos rfl] at h1
      omega
  have ht : t = false := by
    cases t
    · rfl
    · exfalso
      have h1 : (0 : Int) < ((a : Nat) : Int) * ((2 ^ (kp - 0) : Nat) : Int) := Int.mul_pos (by omega) (by have := Nat.two_pow_pos (kp - 0); omega)
      rw [hu] at h1
      unfold sgn at h1
      rw [if_pos rfl] at h1
      omega
  subst hs ht
  clear hz hu X Y
  have hk2 := kp_eq
  rw [dbl_least] at hP hQ hp hq
  generalize hPP : (p - -(kp : Int)).toNat = P at *
  generalize hQQ : (q - -(kp : Int)).toNat = Q at *
  obtain ⟨more, hmore⟩ : ∃ more, more = Ieee.double.fractionBits + 2 + n.log2 - m.log2 := ⟨_, rfl⟩
  have hml := more_le (n := n) (F := Ieee.double.fractionBits) hm
  rw [← hmore] at hml
  have hF : 2 ^ (Ieee.double.fractionBits + 2) = 18014398509481984 := by decide
  rw [hF] at hml
  obtain ⟨mag, hmag⟩ : ∃ mag, mag = 2 * ((m <<< more) / n) + ((m <<< more) % n != 0).toNat := ⟨_, rfl⟩
  have hd := Nat.div_add_mod (m * 2 ^ more) n
  have hmod := Nat.mod_lt (m * 2 ^ more) (show 0 < n by omega)
  have hmag' := hmag
  rw [Nat.shiftLeft_eq] at hmag'
  have hbool : ((m * 2 ^ more) % n != 0).toNat ≤ 1 ∧ ((m * 2 ^ more) % n = 0 → ((m * 2 ^ more) % n != 0).toNat = 0) := by
    by_cases h1 : (m * 2 ^ more) % n = 0
    · simp [h1]
    · exact ⟨Bool.toNat_le _, fun h => absurd h h1⟩
  have up : mag * n ≤ 2 * (m * 2 ^ more) + n := by
    rw [hmag']
    generalize (m * 2 ^ more) % n = rem at *
    generalize (m * 2 ^ more) / n = k at *
    generalize (rem != 0).toNat = st at *
    rw [Nat.add_mul, Nat.mul_assoc 2, Nat.mul_comm k n]
    have : st * n ≤ n := by have := Nat.mul_le_mul_right n hbool.1; omega
    omega
  have low : m * 2 ^ more ≤ mag * n := by
    rw [hmag']
    generalize (m * 2 ^ more) % n = rem at *
    generalize (rem != 0).toNat = st at *
    have hk1 : 1 ≤ (m * 2 ^ more) / n := by
      rw [Nat.le_div_iff_mul_le (by omega)]
      omega
    generalize (m * 2 ^ more) / n = k at *
    rw [Nat.add_mul, Nat.mul_assoc 2, Nat.mul_comm k n]
    have : n * 1 ≤ n * k := Nat.mul_le_mul_left n hk1
    omega
  have hb : (p - q - more - 1 - Ieee.double.leastPlace + ((Q + more + 1 : Nat) : Int)).toNat = P + kp := by rw [dbl_least]; omega
  have hb' : 0 ≤ p - q - more - 1 - Ieee.double.leastPlace + ((Q + more + 1 : Nat) : Int) := by rw [dbl_least]; omega
  have near := nearest_rr Ieee.double false mag (Q + more + 1) (p - q - more - 1) hb'
  rw [hb] at near
  -- between two numbers of the format
  have hi : mag * 2 ^ (P + kp) ≤ 35184372088831 * 2 ^ (kp - 45) * 2 ^ (Q + more + 1) := by
    refine Nat.le_of_mul_le_mul_right ?_ (show 0 < n * 35184372088832 by omega)
    have e1 : mag * 2 ^ (P + kp) * (n * 35184372088832) = mag * n * (2 ^ P * 2 ^ kp) * 35184372088832 := by rw [Nat.pow_add]; simp only [Nat.mul_assoc, Nat.mul_left_comm, Nat.mul_comm]
    have e2 : 35184372088831 * 2 ^ (kp - 45) * 2 ^ (Q + more + 1) * (n * 35184372088832) = 35184372088831 * (2 ^ (more + 1) * 2 ^ kp * 2 ^ kp * a) := by
      have e3 : 2 ^ kp = 2 ^ (kp - 45) * 35184372088832 := by rw [show 35184372088832 = 2 ^ 45 from rfl, ← Nat.pow_add]; congr 1; omega
      calc 35184372088831 * 2 ^ (kp - 45) * 2 ^ (Q + more + 1) * (n * 35184372088832) = 35184372088831 * (2 ^ (kp - 45) * 35184372088832) * (2 ^ (more + 1) * (n * 2 ^ Q)) := by
            rw [show Q + more + 1 = Q + (more + 1) from by omega, Nat.pow_add 2 Q]; simp only [Nat.mul_assoc, Nat.mul_left_comm, Nat.mul_comm]
        _ = 35184372088831 * 2 ^ kp * (2 ^ (more + 1) * (a * 2 ^ kp)) := by rw [← e3, ← hQ]
        _ = _ := by simp only [Nat.mul_assoc, Nat.mul_left_comm, Nat.mul_comm]
    rw [e1, e2]
    have e4 : mag * n * (2 ^ P * 2 ^ kp) ≤ 2 ^ (more + 1) * 2 ^ kp * 2 ^ kp * h + n * (2 ^ P * 2 ^ kp) := by
      calc mag * n * (2 ^ P * 2 ^ kp) ≤ (2 * (m * 2 ^ more) + n) * (2 ^ P * 2 ^ kp) := Nat.mul_le_mul_right _ up
        _ = 2 ^ (more + 1) * 2 ^ kp * (m * 2 ^ P) + n * (2 ^ P * 2 ^ kp) := by rw [Nat.add_mul, Nat.pow_succ]; simp only [Nat.mul_assoc, Nat.mul_left_comm, Nat.mul_comm]
        _ = 2 ^ (more + 1) * 2 ^ kp * 2 ^ kp * h + n * (2 ^ P * 2 ^ kp) := by rw [← hP]; simp only [Nat.mul_assoc, Nat.mul_left_comm, Nat.mul_comm]
    have e5 : n * (2 ^ P * 2 ^ kp) * 18014398509481984 ≤ 2 ^ (more + 1) * 2 ^ kp * 2 ^ kp * h := by
      calc n * (2 ^ P * 2 ^ kp) * 18014398509481984 = n * 18014398509481984 * (2 ^ P * 2 ^ kp) := Nat.mul_right_comm ..
        _ ≤ 2 * (m * 2 ^ more) * (2 ^ P * 2 ^ kp) := Nat.mul_le_mul_right _ hml
        _ = 2 ^ (more + 1) * 2 ^ kp * (m * 2 ^ P) := by rw [Nat.pow_succ]; simp only [Nat.mul_assoc, Nat.mul_left_comm, Nat.mul_comm]
        _ = _ := by rw [← hP]; simp only [Nat.mul_assoc, Nat.mul_left_comm, Nat.mul_comm]
    exact Nat.le_trans (Nat.mul_le_mul_right _ e4) (frac_le hlt ha e5)
  have lo : 1 * 2 ^ (kp - 45) * 2 ^ (Q + more + 1) ≤ mag * 2 ^ (P + kp) := by
    refine Nat.le_of_mul_le_mul_right ?_ (show 0 < n by omega)
    have e1 : mag * 2 ^ (P + kp) * n = mag * n * (2 ^ P * 2 ^ kp) := by rw [Nat.pow_add]; simp only [Nat.mul_assoc, Nat.mul_left_comm, Nat.mul_comm]
    have e3 : 2 ^ kp = 2 ^ (kp - 45) * 35184372088832 := by rw [show 35184372088832 = 2 ^ 45 from rfl, ← Nat.pow_add]; congr 1; omega
    have e2 : 1 * 2 ^ (kp - 45) * 2 ^ (Q + more + 1) * n = 2 ^ (kp - 45) * 2 ^ (more + 1) * (a * 2 ^ kp) := by
      rw [show Q + more + 1 = Q + (more + 1) from by omega, Nat.pow_add 2 Q, hQ, Nat.one_mul]; simp only [Nat.mul_assoc, Nat.mul_left_comm, Nat.mul_comm]
    rw [e1, e2]
    have e4 : m * 2 ^ more * (2 ^ P * 2 ^ kp) ≤ mag * n * (2 ^ P * 2 ^ kp) := Nat.mul_le_mul_right _ low
    refine Nat.le_trans ?_ e4
    have e5 : m * 2 ^ more * (2 ^ P * 2 ^ kp) = 2 ^ more * 2 ^ kp * (h * 2 ^ kp) := by rw [hP]; simp only [Nat.mul_assoc, Nat.mul_left_comm, Nat.mul_comm]
    rw [e5]
    have e6 : 2 ^ (kp - 45) * 2 ^ (more + 1) * (a * 2 ^ kp) = 2 ^ (kp - 45) * 2 ^ more * 2 ^ kp * (2 * a) := by rw [Nat.pow_succ]; simp only [Nat.mul_assoc, Nat.mul_left_comm, Nat.mul_comm]
    have e7 : 2 ^ more * 2 ^ kp * (h * 2 ^ kp) = 2 ^ (kp - 45) * 2 ^ more * 2 ^ kp * (35184372088832 * h) := by
      conv => lhs; rw [show h * 2 ^ kp = h * (2 ^ (kp - 45) * 35184372088832) from by rw [← e3]]
      simp only [Nat.mul_assoc, Nat.mul_left_comm, Nat.mul_comm]
    rw [e6, e7]
    exact Nat.mul_le_mul_left _ (by omega)
  have r1 := rr_mono Ieee.double _ _ (Q + more + 1) hi
  have r2 := rr_mono Ieee.double _ _ (Q + more + 1) lo
  have x1 := rr_exact Ieee.double 35184372088831 (kp - 45) (Q + more + 1) (by decide)
  have x2 := rr_exact Ieee.double 1 (kp - 45) (Q + more + 1) (by decide)
  have v1 := (rv_le_iff Ieee.double).2 r1
  have v2 := (rv_le_iff Ieee.double).2 r2
  rw [x1] at v1
  rw [x2] at v2
  have hV : rv Ieee.double (rr Ieee.double (mag * 2 ^ (P + kp)) (Q + more + 1)) < 2 ^ kp := by
    refine Nat.lt_of_le_of_lt v1 ?_
    have e3 : 2 ^ kp = 35184372088832 * 2 ^ (kp - 45) := by rw [show 35184372088832 = 2 ^ 45 from rfl, ← Nat.pow_add]; congr 1; omega
    rw [e3]
    exact Nat.mul_lt_mul_of_pos_right (by decide) (Nat.two_pow_pos _)
  have hfin : rr Ieee.double (mag * 2 ^ (P + kp)) (Q + more + 1) < Ieee.double.infRung := by
    rcases Nat.lt_or_ge (rr Ieee.double (mag * 2 ^ (P + kp)) (Q + more + 1)) Ieee.double.infRung with h1 | h1
    · exact h1
    · exfalso
      have h2 := (rv_le_iff Ieee.double).2 h1
      rw [dbl_inf, ← Nat.pow_add] at h2
      have h3 : 2 ^ kp ≤ 2 ^ (52 + km) := Nat.pow_le_pow_right (by decide) (by have := km_eq; omega)
      omega
  rw [Nat.min_eq_left (Nat.le_of_lt hfin)] at near
  refine ⟨_, _, ?_, ⟨false, _, rfl, hfin, rfl⟩, ?_, hV⟩
  · show Ieee.double.div (floatOfInt .f64 ((h : Nat) : Int)) (floatOfInt .f64 ((a : Nat) : Int)) = _
    unfold Ieee.Format.div
    rw [e, e']
    simp only [Ieee.Datum.quotient, if_neg hn, Option.map_some]
    rw [← hmore, ← hmag]
    exact congrArg some near
  · have := Nat.two_pow_pos (kp - 45)
    omega
end Go.Proofs.Ythojgfnaanckeaa

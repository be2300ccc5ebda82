/- Three meters, of which one notes the sums: plain numbers. -/
import Derived.Test.YtbhchnfdhdjfnaaHalf
namespace Go.Proofs.Ytbhchnfdhdjfnaa
open Go.RowKit Go.Mm

theorem Dy.h1 {r j : Nat} {k : Int} (h : Dy r k j) (hk : k.natAbs < 9007199254740992) (hj : j + 1 ≤ 1074) : Dy (Ytbhchnfdhdjfnaa.h1 r) k (j + 1) := by
  have two : Dy 4611686018427387904 2 0 := Dy.ofInt 2 (by decide)
  obtain ⟨q, e, hq⟩ := (h.more 1 (by rw [kp_eq]; omega)).div two (by decide) (by omega) (by simp) hk
  unfold Ytbhchnfdhdjfnaa.h1
  rw [e]
  exact hq
theorem Dy.hN {r j t : Nat} {k : Int} (h : Dy r k j) (hk : k.natAbs < 9007199254740992) (hj : j + t ≤ 1074) : Dy (Ytbhchnfdhdjfnaa.hN t r) k (j + t) := by
  induction t generalizing r j with
  | zero => exact h
  | succ t ih =>
    have := ih (h.h1 hk (by omega)) (by omega)
    exact this.cast rfl (by omega)
theorem Dy.adf {x y : Nat} {k l : Int} {j : Nat} (hx : Dy x k j) (hy : Dy y l j) (h : (k + l).natAbs < 9007199254740992) : Dy (Ytbhchnfdhdjfnaa.adf x y) (k + l) j := by
  obtain ⟨r, e, hr⟩ := hx.add hy h; unfold Ytbhchnfdhdjfnaa.adf; rw [e]; exact hr
/-- the period of the last of k notes -/
def J (k : Nat) : Nat := (k - 1) / 15
theorem J_le {k : Nat} (h : k ≤ 300) : J k ≤ 19 := by unfold J; omega
theorem J_mono (k : Nat) : J k ≤ J (k + 1) := by unfold J; omega
theorem pow_J {k : Nat} (h : k ≤ 300) : 2 ^ J k ≤ 524288 ∧ 1 ≤ 2 ^ J k := by
  have h1 : 2 ^ J k ≤ 2 ^ 19 := Nat.pow_le_pow_right (by decide) (J_le h)
  have h2 := Nat.two_pow_pos (J k)
  have h3 : (2 : Nat) ^ 19 = 524288 := by decide
  omega
/-- the moment of the last of k notes -/
def nowOf (h : Int) (k : Nat) : Int := if k = 0 then 0 else ((k - 1 : Nat) : Int) * h / 15
theorem nowOf_period (h : Int) (k : Nat) (hh : 1 ≤ h) : nowOf h k / h = (J k : Int) := by
  unfold nowOf J
  split
  · subst_vars; simp
  · rw [Int.ediv_ediv_of_nonneg (by decide), Int.mul_comm 15 h, ← Int.ediv_ediv_of_nonneg (by omega), Int.mul_ediv_cancel _ (by omega)]
    omega
theorem nowOf_range (h : Int) (k : Nat) (hh : 1 ≤ h) (hh' : h ≤ 1000) (hk : k ≤ 300) : 0 ≤ nowOf h k ∧ nowOf h k ≤ 300000 := by
  unfold nowOf
  split
  · omega
  · have h1 : 0 ≤ ((k - 1 : Nat) : Int) * h := Int.mul_nonneg (by omega) (by omega)
    have h2 : ((k - 1 : Nat) : Int) * h ≤ 300 * 1000 := Int.mul_le_mul (by omega) hh' (by omega) (by omega)
    omega
theorem nowOf_mono (h : Int) (k : Nat) (hh : 1 ≤ h) : nowOf h k ≤ nowOf h (k + 1) := by
  unfold nowOf
  rw [if_neg (show ¬ k + 1 = 0 by omega)]
  split
  · have h1 : 0 ≤ ((k + 1 - 1 : Nat) : Int) * h := Int.mul_nonneg (by omega) (by omega)
    omega
  · have h2 : ((k - 1 : Nat) : Int) * h ≤ ((k + 1 - 1 : Nat) : Int) * h := Int.mul_le_mul_of_nonneg_right (by omega) (by omega)
    omega
def At (h : Int) (k : Nat) (m : Meter) (q : Int) : Prop := m.half = h ∧ m.ok ∧ m.last = nowOf h k ∧ Dy m.rate q (J k)
theorem At.step {h : Int} {k : Nat} {m : Meter} {q n : Int} (hA : At h k m q) (hh : 1 ≤ h) (hh' : h ≤ 1000) (hq : 0 ≤ q ∧ q ≤ 1998 * (k : Int) * 524288) (hk : k < 300) (hn : 0 ≤ n ∧ n ≤ 1998) :
    At h (k + 1) (m.noted (nowOf h (k + 1)) n) (q + n * ((2 ^ J (k + 1) : Nat) : Int)) := by
  obtain ⟨a1, a2, a3, a4⟩ := hA
  have r1 := nowOf_range h (k + 1) hh hh' (by omega)
  have mo := J_mono k
  have jl := J_le (show k + 1 ≤ 300 by omega)
  have pj := pow_J (show k + 1 ≤ 300 by omega)
  refine ⟨a1, ⟨a2.1, a2.2.1, r1.1, by show nowOf h (k + 1) ≤ _; omega, adf_pos (hN_pos a2.2.2.2.2 _) (pos_ofInt n hn.1)⟩, rfl, ?_⟩
  show Dy (Ytbhchnfdhdjfnaa.adf (Ytbhchnfdhdjfnaa.hN (nowOf h (k + 1) / m.half - m.last / m.half).toNat m.rate) (floatOfInt .f64 n)) _ _
  rw [a1, a3, nowOf_period h _ hh, nowOf_period h _ hh, show ((J (k + 1) : Int) - (J k : Int)).toNat = J (k + 1) - J k from by omega]
  have d1 := (a4.hN (t := J (k + 1) - J k) (by omega) (by omega)).cast (j := J (k + 1)) rfl (by omega)
  have hnn : (n * ((2 ^ J (k + 1) : Nat) : Int)).natAbs ≤ 1998 * 524288 := by
    rw [Int.natAbs_mul, Int.natAbs_natCast]
    exact Nat.mul_le_mul (by omega) pj.1
  have d2 := ((Dy.ofInt n (by omega)).more (J (k + 1)) (by have := kp_eq; omega)).cast rfl (Nat.zero_add _)
  exact d1.adf d2 (by omega)
def Sums (h n0 : Int) (k : Nat) (ma mb mc : Meter) : Prop :=
  ∃ qa qb : Int, At h k ma qa ∧ At h k mb qb ∧ At h k mc (qa + qb) ∧ 0 ≤ qa ∧ qa ≤ 999 * (k : Int) * 524288 ∧ 0 ≤ qb ∧ qb ≤ 999 * (k : Int) * 524288 ∧ (0 < k → n0 ≤ qa)
theorem Sums.step {h n0 : Int} {k : Nat} {ma mb mc : Meter} {n m : Int} (hS : Sums h n0 k ma mb mc) (hh : 1 ≤ h) (hh' : h ≤ 1000) (hk : k < 300) (hn : 0 ≤ n ∧ n < 1000) (hm : 0 ≤ m ∧ m < 1000) (h0 : k = 0 → n = n0) :
    Sums h n0 (k + 1) (ma.noted (nowOf h (k + 1)) n) (mb.noted (nowOf h (k + 1)) m) (mc.noted (nowOf h (k + 1)) (n + m)) := by
  obtain ⟨qa, qb, A, B, C, b1, b2, b3, b4, b5⟩ := hS
  have pj := pow_J (show k + 1 ≤ 300 by omega)
  generalize hP : ((2 ^ J (k + 1) : Nat) : Int) = P at *
  have hP1 : 1 ≤ P := by omega
  have hP2 : P ≤ 524288 := by omega
  have n1 : 0 ≤ n * P := Int.mul_nonneg hn.1 (by omega)
  have n2 : n * P ≤ 999 * 524288 := Int.mul_le_mul (by omega) hP2 (by omega) (by omega)
  have m1 : 0 ≤ m * P := Int.mul_nonneg hm.1 (by omega)
  have m2 : m * P ≤ 999 * 524288 := Int.mul_le_mul (by omega) hP2 (by omega) (by omega)
  have n3 : n ≤ n * P := by have := Int.mul_le_mul_of_nonneg_left hP1 hn.1; omega
  have A' := A.step hh hh' ⟨b1, by omega⟩ hk (n := n) (by omega)
  have B' := B.step hh hh' ⟨b3, by omega⟩ hk (n := m) (by omega)
  have C' := C.step hh hh' ⟨by omega, by omega⟩ hk (n := n + m) (by omega)
  rw [hP] at A' B' C'
  rw [Int.add_mul] at C'
  refine ⟨qa + n * P, qb + m * P, A', B', ?_, by omega, by omega, by omega, by omega, fun _ => ?_⟩
  · rwa [show qa + n * P + (qb + m * P) = qa + qb + (n * P + m * P) from by omega]
  · by_cases hk0 : k = 0
    · have := h0 hk0; omega
    · have := b5 (by omega); omega
theorem rates_last {h : Int} {k : Nat} {m : Meter} {q : Int} (hA : At h k m q) : m.at_ (nowOf h k) = (m.rate, 0) := by
  obtain ⟨a1, a2, a3, a4⟩ := hA
  rw [← a3, Meter.at_late a2.2.2.1 (Int.le_refl _), Int.sub_self]; rfl
end Go.Proofs.Ytbhchnfdhdjfnaa

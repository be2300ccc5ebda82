/- Walk: 2 to a power. Operations on numbers whose answer comes out. -/
import Derived.Test.YtbhchnfdhdjfnaaShortN
import Derived.Test.YtbhchnfdhdjfnaaMm
namespace Go.Proofs.Ytbhchnfdhdjfnaa
set_option exponentiation.threshold 3000
open Go.RowKit Go.Mm
theorem fres_of {op : BinOp} {x y r : Nat} (h : floatBits op .f64 x y = some r) (W : World) : fres op x y W = r := by unfold fres; rw [h]; rfl
abbrev isD (x : Nat) (z : Int) : Prop := IsF Ieee.double x z
def tp (n : Nat) : Int := ((2 ^ n : Nat) : Int)
theorem tp_pos (n : Nat) : 0 < tp n := by unfold tp; have := Nat.two_pow_pos n; omega
theorem tp_mul (m n : Nat) : tp m * tp n = tp (m + n) := by unfold tp; rw [← Int.natCast_mul, ← Nat.pow_add]
theorem fmul_d {x y : Nat} {z u v : Int} (hx : isD x z) (hy : isD y u) (hv : z * u = v * tp 1074) (hr : Rep Ieee.double v) (W : World) : isD (fres .mul x y W) v := by
  obtain ⟨r, h1, h2⟩ := mul_exact Ieee.double hx hy (by decide) (v := v) (by rw [dbl_up, kp_eq]; exact hv) hr
  rw [fres_of (show floatBits .mul .f64 x y = some r from h1)]; exact h2
theorem fquo_d {x y : Nat} {z u v : Int} (hx : isD x z) (hy : isD y u) (hu : u ≠ 0) (hv : v * u = z * tp 1074) (hr : Rep Ieee.double v) (W : World) : isD (fres .quo x y W) v := by
  obtain ⟨r, h1, h2⟩ := div_exact Ieee.double hx hy (by decide) hu (v := v) (by rw [dbl_up, kp_eq]; exact hv) hr
  rw [fres_of (show floatBits .quo .f64 x y = some r from h1)]; exact h2
theorem fsub_d {x y : Nat} {z u : Int} (hx : isD x z) (hy : isD y u) (hr : Rep Ieee.double (z - u)) (W : World) : isD (fres .sub x y W) (z - u) := by
  obtain ⟨r, h1, h2⟩ := sub_exact Ieee.double hx hy hr
  rw [fres_of (show floatBits .sub .f64 x y = some r from h1)]; exact h2
theorem fadd_d {x y : Nat} {z u : Int} (hx : isD x z) (hy : isD y u) (hr : Rep Ieee.double (z + u)) (W : World) : isD (fres .add x y W) (z + u) := by
  obtain ⟨r, h1, h2⟩ := add_exact Ieee.double hx hy hr
  rw [fres_of (show floatBits .add .f64 x y = some r from h1)]; exact h2
theorem dy_d {x : Nat} {k : Int} (h : Dy x k 0) : isD x (k * tp 1074) := by
  have := h.2
  rw [Nat.sub_zero, kp_eq] at this
  exact this
theorem two_d : isD 4611686018427387904 (tp 1075) := by
  have h : Dy 4611686018427387904 2 0 := Dy.ofInt 2 (by decide)
  have := dy_d h
  rwa [show (2 : Int) * tp 1074 = tp 1075 from by rw [show (2 : Int) = tp 1 from rfl, tp_mul]] at this
theorem one_d : isD 4607182418800017408 (tp 1074) := by
  have h : Dy 4607182418800017408 1 0 := Dy.ofInt 1 (by decide)
  have := dy_d h
  rwa [Int.one_mul] at this
theorem rep_tp (n : Nat) (h : n ≤ 2097) : Rep Ieee.double (tp n) := by
  unfold tp
  refine ⟨⟨1, n, by rw [Int.natAbs_natCast, Nat.one_mul], by rw [dbl_binade]; decide⟩, ?_⟩
  rw [Int.natAbs_natCast, dbl_inf, km_eq, ← Nat.pow_add]
  exact Nat.pow_lt_pow_right (by decide) (by omega)
def PowEnds (n : Int) (w : World) (e : Ending) (w' : World) : Prop := ∃ p d, e = .returned (.float .f64 p) ∧ Hid (isD p (tp (1074 + n).toNat)) ∧ w' = w.drewN d
set_option maxRecDepth 100000 in
set_option maxHeartbeats 4000000 in
theorem power_any (n : Int) (w : World) (h1 : -1000 ≤ n) (h2 : n ≤ 1000) : Calls Try.prog 34 #[.int .i64 n] w (PowEnds n w) := by
  by_cases h0 : 0 ≤ n
  · obtain ⟨m, rfl⟩ := Int.eq_ofNat_of_zero_le h0
    go_enter Try.func34, Try.ntmps34
    go_wp2_with fail
    go_loopw [3, 4] (fun x i wr => ∃ (k : Nat) (p d : Nat), k ≤ m ∧ i = .int .i64 (k : Nat) ∧ x = .float .f64 p ∧ Hid (isD p (tp (1074 + k))) ∧ wr = w.drewN d) (fun _ i _ => m - (intOf i).toNat)
    case atStart => exact ⟨0, _, 0, Nat.zero_le _, rfl, rfl, one_d, rfl⟩
    case round =>
      obtain ⟨k, p, d, hk, rfl, rfl, HP, rfl⟩ := hrel
      by_cases hlt : k < m
      · have z1 : (k : Int) < (m : Int) := by omega
        have FN : Hid (∀ W, isD (fres .mul 4611686018427387904 p W) (tp (1074 + (k + 1)))) := Mm.hid fun W => fmul_d two_d HP.out (by rw [tp_mul, tp_mul]; congr 1; omega) (rep_tp _ (by omega)) W
        go_wp2
        go_roundw
        case rel => exact ⟨k + 1, _, _, by omega, by go_num, rfl, FN.out _, rfl⟩
        case measure => simp [intOf]; omega
      · have hkm : k = m := by omega
        subst hkm
        have z1 : ¬ (0 : Int) > (k : Int) := by omega
        go_wp2_with fail
        go_loopw [3, 5] (fun x i wr => i = .int .i64 0 ∧ x = .float .f64 p ∧ wr = w.drewN d) (fun _ _ _ => 0)
        case atStart => exact ⟨rfl, rfl, rfl⟩
        case round =>
          obtain ⟨rfl, rfl, rfl⟩ := hrel
          go_wp2
          go_ret
          exact ⟨p, d, rfl, by rw [show ((1074 : Int) + (k : Int)).toNat = 1074 + k from by omega]; exact HP, rfl⟩
  · obtain ⟨m, hm⟩ : ∃ m : Nat, n = -(m : Int) := ⟨n.natAbs, by omega⟩
    subst hm
    have z0 : ¬ (0 : Int) < -(m : Int) := by omega
    go_enter Try.func34, Try.ntmps34
    go_wp2_with fail
    go_loopw [3, 4] (fun x i wr => i = .int .i64 0 ∧ x = .float .f64 4607182418800017408 ∧ wr = w) (fun _ _ _ => 0)
    case atStart => exact ⟨rfl, rfl, rfl⟩
    case round =>
      obtain ⟨rfl, rfl, hw⟩ := hrel
      have hw := hw.symm
      subst hw
      go_wp2_with fail
      go_loopw [3, 5] (fun x i wr => ∃ (k : Nat) (p d : Nat), k ≤ m ∧ i = .int .i64 (-(k : Int)) ∧ x = .float .f64 p ∧ Hid (isD p (tp (1074 - k))) ∧ wr = w.drewN d) (fun _ i _ => m - (-(intOf i)).toNat)
      case atStart => exact ⟨0, _, 0, Nat.zero_le _, rfl, rfl, one_d, rfl⟩
      case round =>
        obtain ⟨k, p, d, hk, rfl, rfl, HP, rfl⟩ := hrel
        by_cases hlt : k < m
        · have z1 : -(m : Int) < -(k : Int) := by omega
          have FN : Hid (∀ W, isD (fres .quo p 4611686018427387904 W) (tp (1074 - (k + 1)))) := Mm.hid fun W => fquo_d HP.out two_d (by have := tp_pos 1075; omega) (by rw [tp_mul, tp_mul]; congr 1; omega) (rep_tp _ (by omega)) W
          go_wp2
          go_roundw
          case rel => exact ⟨k + 1, _, _, by omega, by go_num, rfl, FN.out _, rfl⟩
          case measure => simp [intOf]; omega
        · have hkm : k = m := by omega
          subst hkm
          go_wp2
          go_ret
          exact ⟨p, d, rfl, by rw [show ((1074 : Int) + -(k : Int)).toNat = 1074 - k from by omega]; exact HP, rfl⟩
end Go.Proofs.Ytbhchnfdhdjfnaa

/- Walk: the law MeterTwo. -/
import Derived.Test.YtbhchnfdhdjfnaaAlike
namespace Go.Proofs.Ytbhchnfdhdjfnaa
open Go.RowKit Go.Mm
theorem Dy.radd {x y : Nat} {k l : Int} {j : Nat} (hx : Dy x k j) (hy : Dy y l j) (h : (k + l).natAbs < 9007199254740992) (w : World) : Dy (fres .add x y w) (k + l) j := (hx.fadd hy h).sm (fo_sm (Sm.refl _) (Sm.refl _) w)
theorem Dy.rsub {x y : Nat} {k l : Int} {j : Nat} (hx : Dy x k j) (hy : Dy y l j) (h : (k - l).natAbs < 9007199254740992) (w : World) : Dy (fres .sub x y w) (k - l) j := (hx.fsub hy h).sm (fo_sm (Sm.refl _) (Sm.refl _) w)
theorem Dy.rmul {x y : Nat} {k l : Int} {i j : Nat} (hx : Dy x k i) (hy : Dy y l j) (hij : i + j ≤ kp) (h : (k * l).natAbs < 9007199254740992) (w : World) : Dy (fres .mul x y w) (k * l) (i + j) := (hx.fmul hy hij h).sm (fo_sm (Sm.refl _) (Sm.refl _) w)
theorem Dy.rdiv {x y : Nat} {k l m : Int} {i j : Nat} (hx : Dy x m i) (hy : Dy y l j) (hl : l ≠ 0) (hj : j ≤ i) (hm : m = k * l) (h : k.natAbs < 9007199254740992) (w : World) : Dy (fres .quo x y w) k (i - j) := (hx.fdiv hy hl hj hm h).sm (fo_sm (Sm.refl _) (Sm.refl _) w)
theorem Dy.cast {x : Nat} {k l : Int} {i j : Nat} (h : Dy x k i) (hk : k = l) (hj : i = j) : Dy x l j := by subst hk; subst hj; exact h
theorem sq_bound (d : Int) (h : d.natAbs ≤ 1048576) : (d * d).natAbs ≤ 1048576 * 1048576 := by
  rw [Int.natAbs_mul]; exact Nat.mul_le_mul h h
theorem two_means (a b : Int) (ha : 0 ≤ a ∧ a < 1048576) (hb : 0 ≤ b ∧ b < 1048576) :
    Dy (meanOf [floatOfInt .f64 a, floatOfInt .f64 b]) (a + b) 1 ∧ Dy (spreadOf [floatOfInt .f64 a, floatOfInt .f64 b]) ((a - b) * (a - b)) 2 := by
  have k2 := kp_eq
  have A := Dy.ofInt a (by omega)
  have B := Dy.ofInt b (by omega)
  have two : Dy (floatOfInt .f64 2) 2 0 := Dy.ofInt 2 (by decide)
  have hs : Dy (fo .add (fo .add 0 (floatOfInt .f64 a)) (floatOfInt .f64 b)) (a + b) 0 := ((Dy.zero.fadd A (by omega)).fadd B (by omega)).cast (by omega) rfl
  have hm : Dy (meanOf [floatOfInt .f64 a, floatOfInt .f64 b]) (a + b) 1 := by
    have : Dy (fo .quo (fo .add (fo .add 0 (floatOfInt .f64 a)) (floatOfInt .f64 b)) (floatOfInt .f64 2)) (a + b) 1 :=
      ((hs.more 1 (by omega)).fdiv two (by decide) (by omega) (by simp) (by omega)).cast rfl rfl
    exact this
  refine ⟨hm, ?_⟩
  have sq := sq_bound (a - b) (by omega)
  have sq' : ((b - a) * (b - a)) = (a - b) * (a - b) := by
    rw [show b - a = -(a - b) from by omega, Int.neg_mul_neg]
  have oa := ((A.more 1 (by omega)).fsub hm (by simp; omega)).cast (l := a - b) (by simp; omega) rfl
  have ob := ((B.more 1 (by omega)).fsub hm (by simp; omega)).cast (l := b - a) (by simp; omega) rfl
  have qa := oa.fmul oa (by omega) (by omega)
  have qb := (ob.fmul ob (by omega) (by rw [sq']; omega)).cast sq' rfl
  have z2 := (Dy.zero.more 2 (by omega)).cast (l := 0) (by simp) rfl
  have s2 := ((z2.fadd qa (by omega)).fadd qb (by omega)).cast (l := ((a - b) * (a - b)) * 2) (by omega) rfl
  have : Dy (fo .quo (fo .add (fo .add 0 (fo .mul (fo .sub (floatOfInt .f64 a) (meanOf [floatOfInt .f64 a, floatOfInt .f64 b])) (fo .sub (floatOfInt .f64 a) (meanOf [floatOfInt .f64 a, floatOfInt .f64 b])))) (fo .mul (fo .sub (floatOfInt .f64 b) (meanOf [floatOfInt .f64 a, floatOfInt .f64 b])) (fo .sub (floatOfInt .f64 b) (meanOf [floatOfInt .f64 a, floatOfInt .f64 b])))) (floatOfInt .f64 2)) ((a - b) * (a - b)) 2 :=
    (s2.fdiv two (by decide) (by omega) rfl (by omega)).cast rfl rfl
  exact this
set_option maxHeartbeats 400000 in
theorem law_two (x y : Int) (w : World) (hx : (Lit.int .i64 x).wf = true) (hy : (Lit.int .i64 y).wf = true) :
    Calls Try.prog 10 #[.int .i64 x, .int .i64 y] w fun e w' => e = .returned (.bool true) ∧ Below w.heap.size w w' := by
  have bx := wf64 hx
  have bn := wf64 hy
  have e1 := Int.emod_nonneg x (show (1048576 : Int) ≠ 0 by decide)
  have e2 := Int.emod_lt_of_pos x (show (0 : Int) < 1048576 by decide)
  have e3 := Int.emod_nonneg y (show (1048576 : Int) ≠ 0 by decide)
  have e4 := Int.emod_lt_of_pos y (show (0 : Int) < 1048576 by decide)
  clear hx hy
  go_enter Try.func10, Try.ntmps10
  go_wp2_with fail
  refine (pick_any _ _ _ (by omega) (by omega) (by omega) (by omega)).mono ?_
  rintro e w' ⟨rfl, rfl⟩
  go_wp2_with fail
  refine (pick_any _ _ _ (by omega) (by omega) (by omega) (by omega)).mono ?_
  rintro e w' ⟨rfl, rfl⟩
  generalize x % 1048576 = X at *
  generalize y % 1048576 = Y at *
  have EX := Mm.hid (two_means X Y ⟨e1, e2⟩ ⟨e3, e4⟩)
  have DX := Mm.hid (Dy.ofInt X (by omega))
  have DY := Mm.hid (Dy.ofInt Y (by omega))
  have BX := Mm.hid (And.intro (And.intro e1 e2) (And.intro e3 e4))
  clear bx bn e1 e2 e3 e4
  go_wp2_with fail
  generalize floatOfInt .f64 X = fx at *
  generalize floatOfInt .f64 Y = fy at *
  have F1 : RdF (w.alloc (.cells #[.float .f64 fx, .float .f64 fy] 22)) (some ⟨w.heap.size, 0, none⟩) 2 [fx, fy] := by
    refine ⟨rfl, by omega, fun _ => ⟨_, rfl, fun j hj => ?_⟩⟩
    rw [add_plain, (Blk.new w _ 22).cell]
    match j, hj with
    | 0, _ => rfl
    | 1, _ => rfl
  refine (mean_any _ _ _ _ _ F1).mono ?_
  rintro e w2 ⟨a, b, m, rfl, rfl, _, h2⟩
  have h3 := h2 (by intro h; cases h)
  obtain ⟨d1, d2⟩ := EX.out
  have d1 := d1.sm h3.1
  have d2 := d2.sm h3.2
  have bb := BX.out
  have sq := sq_bound (X - Y) (by omega)
  have k2 := kp_eq
  have t1 : ∀ w1 w2, (FloatKind.f64.format.order (fres .add a a w1) (fres .add fx fy w2) == some .eq) = true := fun w1 w2 =>
    Dy.eq_true ((d1.radd d1 (by omega) w1).cast (l := (X + Y) * 2) (by omega) rfl) ((DX.out.radd DY.out (by omega) w2).more 1 (by omega))
  have four : Dy 4616189618054758400 4 0 := Dy.ofInt 4 (by decide)
  have t2 : ∀ w1 w2 w3 w4, (FloatKind.f64.format.order (fres .mul 4616189618054758400 b w1) (fres .mul (fres .sub fx fy w2) (fres .sub fx fy w3) w4) == some .eq) = true := fun w1 w2 w3 w4 =>
    Dy.eq_true ((four.rmul d2 (by omega) (by omega) w1).cast (l := (X - Y) * (X - Y) * 4) (by omega) rfl) (((DX.out.rsub DY.out (by omega) w2).rmul (DX.out.rsub DY.out (by omega) w3) (by omega) (by omega) w4).more 2 (by omega))
  clear h2 h3 d1 d2 F1 EX DX DY BX bb sq k2 four
  go_wp2_with fail
  go_ret
  exact ⟨rfl, Below.trans ((Below.refl _ w).alloc (Nat.le_refl _) _) ⟨rfl, rfl, rfl, Nat.le_refl _, fun _ _ => rfl⟩⟩
end Go.Proofs.Ytbhchnfdhdjfnaa

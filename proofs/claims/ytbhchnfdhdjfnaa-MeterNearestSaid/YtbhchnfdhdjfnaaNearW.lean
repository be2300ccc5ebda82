/- Walk: the law MeterNearest. -/
import Derived.Test.YtbhchnfdhdjfnaaNearN
namespace Go.Proofs.Ytbhchnfdhdjfnaa
set_option exponentiation.threshold 3000
set_option linter.unusedSimpArgs false
open Go.RowKit Go.Mm
/-- what a Short gives, the float32 by its word -/
def Sh2 (x r y l : Nat) : Prop :=
  (∃ z s, isD x z ∧ z.natAbs < BB ∧ isD y (nz z) ∧ isD l (z - nz z) ∧ z = sgn s z.natAbs ∧ r = Ieee.single.word s (rr Ieee.single z.natAbs 925)) ∨ ((∀ z, isD x z → BB ≤ z.natAbs) ∧ r = 0 ∧ y = 0 ∧ l = x)
def ShortEnds2 (x : Nat) (w : World) (e : Ending) (w' : World) : Prop :=
  ∃ r l y n, e = .returned (.tuple #[.float .f32 r, .float .f64 l]) ∧ Hid (floatToFloatBits .f32 r .f64 = some y) ∧ Hid (Sh2 x r y l) ∧ w' = w.drewN n
theorem there_back2 {x : Nat} {z : Int} (hx : isD x z) (h : z.natAbs < BB) : ∃ s y, z = sgn s z.natAbs ∧ floatToFloatBits .f64 x .f32 = some (Ieee.single.word s (rr Ieee.single z.natAbs 925)) ∧ floatToFloatBits .f32 (Ieee.single.word s (rr Ieee.single z.natAbs 925)) .f64 = some y ∧ isD y (nz z) := by
  obtain ⟨s, r, rfl, hz, e⟩ := to_single hx (fin32 h)
  obtain ⟨t, h1, h2⟩ := of_single s (fin32 h)
  rw [KK_rr, ← nz_sgn s z hz] at h2
  exact ⟨s, t, hz, e, h1, h2⟩
set_option maxRecDepth 100000 in
set_option maxHeartbeats 4000000 in
theorem short_any2 (x : Nat) (w : World) (hx : x < 2 ^ 64) : Calls Try.prog 19 #[.float .f64 x] w (ShortEnds2 x w) := by
  by_cases hin : ∃ z, isD x z ∧ z.natAbs < BB
  · obtain ⟨z, hz, hb⟩ := hin
    obtain ⟨s, y, hs, e1, e2, hy⟩ := there_back2 hz hb
    have h1 : (FloatKind.f64.format.order x 14407015207689781248 == some .gt) = true := by rw [gt_d hz bbn_d]; simp; omega
    have h2 : (FloatKind.f64.format.order x 5183643170835005440 == some .lt) = true := by rw [lt_d hz bb_d]; simp; omega
    obtain ⟨r, hr⟩ : ∃ r, Ieee.single.word s (rr Ieee.single z.natAbs 925) = r := ⟨_, rfl⟩
    rw [hr] at e1 e2
    have hc1 : ∀ w, (convert 22 27 (.float .f64 x)).run Try.prog w = .ok (.float .f32 r) w := fun w => run_convert_float_float w 22 27 .f64 .f32 x r (by rw [Try.underlying22]; rfl) Try.underlying27 e1
    have hc2 : ∀ w, (convert 27 22 (.float .f32 r)).run Try.prog w = .ok (.float .f64 y) w := fun w => run_convert_float_float w 27 22 .f32 .f64 r y (by rw [Try.underlying27]; rfl) Try.underlying22 e2
    have FS : Hid (∀ W, isD (fres .sub x y W) (z - nz z)) := Mm.hid fun W => fsub_d hz hy (rep_rest hz.rep) W
    have E2 := Mm.hid e2
    have HZ := Mm.hid hz
    have HY := Mm.hid hy
    have HB := Mm.hid hb
    have HR := Mm.hid hr
    have HS := Mm.hid hs
    clear e1 e2 hz hy hb hr hs
    go_enter Try.func19, Try.ntmps19
    go_wp2_with (simp only [hc1, hc2])
    go_ret2
    exact ⟨r, _, y, _, rfl, E2, Mm.hid (.inl ⟨z, s, HZ.out, HB.out, HY.out, FS.out _, HS.out, HR.out.symm⟩), rfl⟩
  · have ho : ∀ z, isD x z → BB ≤ z.natAbs := fun z hz => Nat.le_of_not_lt fun h => hin ⟨z, hz, h⟩
    have HO := Mm.hid ho
    rcases outside x hx ho with h1 | ⟨h1, h2⟩
    all_goals
      clear ho hin
      go_enter Try.func19, Try.ntmps19
      go_wp2
      go_ret2
      exact ⟨0, x, 0, 0, rfl, Mm.hid zero_there, Mm.hid (.inr ⟨HO.out, rfl, rfl, rfl⟩), rfl⟩
def AwayEnds (z : Int) (w : World) (e : Ending) (w' : World) : Prop := ∃ y, e = .returned (.float .f64 y) ∧ Hid (isD y z.natAbs) ∧ w = w'
theorem away_d (x : Nat) (z : Int) (w : World) (hz : isD x z) : Calls Try.prog 21 #[.float .f64 x] w (AwayEnds z w) := by
  by_cases hneg : z < 0
  · have h1 : (FloatKind.f64.format.order x 0 == some .lt) = true := by rw [lt_d hz zero_d]; simpa using hneg
    have hs : Hid (isD (Op.negFloat .f64 x) (z.natAbs : Int)) := by have := neg_d hz; rw [show -z = (z.natAbs : Int) from by omega] at this; exact this
    clear hz hneg
    go_enter Try.func21, Try.ntmps21
    go_wp2
    go_ret
    exact ⟨_, rfl, hs, rfl⟩
  · have h1 : (FloatKind.f64.format.order x 0 == some .lt) = false := by rw [lt_d hz zero_d]; simpa using hneg
    have hs : Hid (isD x (z.natAbs : Int)) := by have := hz; rw [show z = (z.natAbs : Int) from by omega] at this; exact this
    clear hz hneg
    go_enter Try.func21, Try.ntmps21
    go_wp2
    go_ret
    exact ⟨_, rfl, hs, rfl⟩
def AwayBig (w : World) (e : Ending) (w' : World) : Prop := ∃ y, e = .returned (.float .f64 y) ∧ Hid (Big y) ∧ w = w'
theorem away_big (x : Nat) (w : World) (hx : x < 2 ^ 64) (ho : ∀ z, isD x z → BB ≤ z.natAbs) (hn : (FloatKind.f64.format.order x x != some .eq) = false) : Calls Try.prog 21 #[.float .f64 x] w (AwayBig w) := by
  rcases outside_ref x hx ho with ⟨_, h2⟩ | ⟨h1, _, h3⟩ | ⟨h1, _, h3⟩
  · rw [h2] at hn; cases hn
  all_goals
    have H := Mm.hid h3
    clear h3 ho hn
    go_enter Try.func21, Try.ntmps21
    go_wp2
    go_ret
    exact ⟨_, rfl, H, rfl⟩
/-! ### NaNs -/
def nan32 (z : Nat) (w : World) : Nat := Question.cut (.nanBits .f32 z z) (w.tape w.drawn (.nanBits .f32 z z))
theorem run_sub32 (z : Nat) (h : floatBits .sub .f32 z z = none) (t : TypeId) (w : World) : (binOp .sub t (.float .f32 z) (.float .f32 z)).run Try.prog w = .ok (.float .f32 (nan32 z w)) (w.drewN 1) := by
  unfold floatBits at h
  simp only at h
  simp [binOp, Op.floatArith, h, Question.forced]; exact ⟨rfl, rfl⟩
theorem nan32_nan (z : Nat) (w : World) : (Ieee.single.read (nan32 z w)).isNaN = true := by
  have h1 : Ieee.single.infRung = 2139095040 := by decide
  have h2 : Ieee.single.signWeight = 2147483648 := by decide
  have h3 : Ieee.single.binade = 8388608 := by decide
  unfold nan32
  generalize w.tape w.drawn (.nanBits .f32 z z) = t
  show (Ieee.single.read (t % 2 * 2 ^ 31 + 0x7f800000 + 1 + t / 2 % (2 ^ 23 - 1))).isNaN = true
  unfold Ieee.Format.read
  rw [h1, h2, h3]
  have hn := Nat.mod_lt (t / 2) (show 0 < 2 ^ 23 - 1 by decide)
  have e : (t % 2 * 2 ^ 31 + 0x7f800000 + 1 + t / 2 % (2 ^ 23 - 1)) % 2147483648 = 0x7f800000 + 1 + t / 2 % (2 ^ 23 - 1) := by
    have := Nat.mod_lt t (show 0 < 2 by decide)
    generalize t / 2 % (2 ^ 23 - 1) = n at *
    generalize t % 2 = b at *
    omega
  simp only [e]
  generalize t / 2 % (2 ^ 23 - 1) = n at *
  have g1 : ¬ (0x7f800000 + 1 + n < 8388608) := by omega
  have g2 : ¬ (0x7f800000 + 1 + n < 2139095040) := by omega
  have g3 : ¬ (0x7f800000 + 1 + n = 2139095040) := by omega
  simp only [g1, g2, g3, if_false]
  rfl
theorem order_nan32 {x y : Nat} (h : (Ieee.single.read x).isNaN = true) : FloatKind.f32.format.order x y = none := by
  show (Ieee.single.read x).order (Ieee.single.read y) = none
  generalize Ieee.single.read x = d at h
  cases d <;> cases Ieee.single.read y <;> simp_all [Ieee.Datum.isNaN, Ieee.Datum.order]
/-- a float32 that is none: made a float64, and less itself -/
structure Huge (z : Nat) (cv : World → Nat) (cd : Nat) : Prop where
  conv : ∀ w, (convert 27 22 (.float .f32 z)).run Try.prog w = .ok (.float .f64 (cv w)) (w.drewN cd)
  lt : ∀ w, cv w < 2 ^ 64
  out : ∀ w u, ¬ isD (cv w) u
  sub : ∀ w, (binOp .sub 27 (.float .f32 z) (.float .f32 z)).run Try.prog w = .ok (.float .f32 (nan32 z w)) (w.drewN 1)
  huge : ∀ w, (FloatKind.f32.format.order (nan32 z w) 0 != some .eq) = true
def nan64 (z : Nat) (w : World) : Nat := Question.cut (.nanConv .f64 z) (w.tape w.drawn (.nanConv .f64 z))
theorem huge_of (z : Nat) (h : (Ieee.single.read z).isNaN = true ∨ ∃ s, z = Ieee.single.word s Ieee.single.infRung) : ∃ cv cd, Huge z cv cd := by
  have hh : ∀ w, (FloatKind.f32.format.order (nan32 z w) 0 != some .eq) = true := fun w => by rw [order_nan32 (nan32_nan z w)]; rfl
  rcases h with h | ⟨s, rfl⟩
  · have hsub : floatBits .sub .f32 z z = none := by
      show ((Ieee.single.read z).sum (Ieee.single.read z).opposite).map _ = none
      generalize Ieee.single.read z = d at h
      cases d <;> simp_all [Ieee.Datum.isNaN, Ieee.Datum.sum, Ieee.Datum.opposite]
    have hcut : ∀ w : World, ∃ a n, n < 4503599627370495 ∧ nan64 z w = a % 2 * 2 ^ 63 + 0x7ff0000000000000 + 1 + n := fun w => ⟨w.tape w.drawn (.nanConv .f64 z), w.tape w.drawn (.nanConv .f64 z) / 2 % (2 ^ 52 - 1), Nat.mod_lt _ (by decide), rfl⟩
    refine ⟨nan64 z, 1, ?_, ?_, ?_, run_sub32 z hsub 27, hh⟩
    · intro w
      obtain ⟨a, b, hd⟩ : ∃ a b, FloatKind.f32.decode z = .nan a b := by
        have : FloatKind.f32.decode z = Ieee.single.read z := rfl
        rw [this]
        generalize Ieee.single.read z = d at h
        cases d <;> simp [Ieee.Datum.isNaN] at h
        exact ⟨_, _, rfl⟩
      obtain ⟨u, hs'⟩ : ∃ u, Try.prog.underlying 27 = some u := ⟨_, Try.underlying27⟩
      have hne : ¬ FloatKind.f32 = FloatKind.f64 := by decide
      rw [Try.underlying27] at hs'
      cases hs'
      simp [convert, run_underlying Try.underlying27, run_underlying Try.underlying22, Conv.floatToFloat, hne, hd, Question.forced]
      exact ⟨rfl, rfl⟩
    · intro w
      obtain ⟨a, n, hn, e⟩ := hcut w
      rw [e]
      have := Nat.mod_lt a (show 0 < 2 by decide)
      omega
    · intro w u
      obtain ⟨a, n, hn, e⟩ := hcut w
      rw [e]
      exact no_nan (canon_nan (nanBits_nan a n hn)) u
  · have hsub : floatBits .sub .f32 (Ieee.single.word s Ieee.single.infRung) (Ieee.single.word s Ieee.single.infRung) = none := by cases s <;> decide
    refine ⟨fun _ => Ieee.double.word s Ieee.double.infRung, 0, ?_, ?_, ?_, run_sub32 _ hsub 27, hh⟩
    · intro w
      have e : floatToFloatBits .f32 (Ieee.single.word s Ieee.single.infRung) .f64 = some (Ieee.double.word s Ieee.double.infRung) := by cases s <;> decide
      exact run_convert_float_float w 27 22 .f32 .f64 _ _ (by rw [Try.underlying27]; rfl) Try.underlying22 e
    · intro w; cases s
      · rw [inf_words.1]; decide
      · rw [inf_words.2]; decide
    · intro w u; exact no_inf s u
/-! ### the walks -/
theorem le_d {x y : Nat} {z u : Int} (hx : isD x z) (hy : isD y u) : (FloatKind.f64.format.order x y == some .lt || FloatKind.f64.format.order x y == some .eq) = decide (z ≤ u) := by
  rw [lt_d hx hy, eq_d hx hy]
  by_cases h : z < u
  · simp [h]; omega
  · by_cases h2 : z = u
    · simp [h2]
    · simp [h, h2]; omega
theorem c_d : isD 4719772409215844352 (((33554431 : Nat) : Int) * tp 1074) := by
  have h : Dy 4719772409215844352 ((33554431 : Nat) : Int) 0 := Dy.ofInt 33554431 (by decide)
  exact dy_d h
theorem lim_d {p : Nat} (hp : isD p (tp (1074 + 103))) (W : World) : isD (fres .mul p 4719772409215844352 W) (BB : Int) := by
  refine fmul_d hp c_d ?_ ?_ W
  · rw [bb_tp, Int.mul_left_comm, tp_mul, Int.mul_assoc, tp_mul]; rfl
  · rw [bb_tp]; exact rep_small 33554431 1177 (by decide) (by decide)
set_option maxRecDepth 100000 in
set_option maxHeartbeats 8000000 in
theorem near_in_fin (x z : Nat) (w : World) (hx : x < 2 ^ 64) (hn : (FloatKind.f64.format.order x x != some .eq) = false) (zx : Int) (hz : isD x zx) (hb : zx.natAbs < BB) (s : Bool) (rz : Nat) (hzz : z = Ieee.single.word s rz) (hrz : rz < Ieee.single.infRung) : Calls Try.prog 5 #[.float .f64 x, .float .f32 z] w fun e w' => e = .returned (.bool true) ∧ ∃ n, w' = w.drewN n := by
  have HZ := Mm.hid hz
  have HB := Mm.hid hb
  clear hz hb
  obtain ⟨yz, cz, hyz⟩ := of_single s hrz
  rw [← hzz] at cz
  have hyb : (sgn s (rv Ieee.single rz * 2 ^ 925)).natAbs < BB := by rw [natAbs_sgn]; exact single_lt hrz
  have hcz : ∀ w, (convert 27 22 (.float .f32 z)).run Try.prog w = .ok (.float .f64 yz) w := fun w => run_convert_float_float w 27 22 .f32 .f64 z yz (by rw [Try.underlying27]; rfl) Try.underlying22 cz
  obtain ⟨sr, hsr, hsr0⟩ : ∃ sr, floatBits .sub .f32 z z = some sr ∧ (FloatKind.f32.format.order sr 0 != some .eq) = false := by
    have hz1 : IsF Ieee.single z (sgn s (rv Ieee.single rz)) := ⟨s, rz, hzz, hrz, rfl⟩
    obtain ⟨r, h1, h2⟩ := sub_exact Ieee.single hz1 hz1 (by rw [Int.sub_self]; exact ⟨⟨0, 0, rfl, by decide⟩, by rw [sgl_inf]; exact Nat.mul_pos (by decide) (Nat.two_pow_pos _)⟩)
    rw [Int.sub_self] at h2
    refine ⟨r, h1, ?_⟩
    have : FloatKind.f32.format.order r 0 = some (compare (0 : Int) 0) := order_isF Ieee.single h2 ⟨false, 0, by decide, by decide, by rw [rv_zero]; rfl⟩
    rw [this]; rfl
  have hsz : ∀ (t : TypeId) (w : World), (binOp .sub t (.float .f32 z) (.float .f32 z)).run Try.prog w = .ok (.float .f32 sr) w := fun t w => run_float_arith w .sub t .f32 z z sr hsr
  have HYZ : Hid (isD yz (sgn s (rv Ieee.single rz * 2 ^ 925))) := hyz
  have HYB := Mm.hid hyb
  have HZZ := Mm.hid hzz
  have HRZ := Mm.hid hrz
  have hyl : yz < 2 ^ 64 := by
    obtain ⟨s2, r2, e2, h2, _⟩ := hyz
    have i1 : Ieee.double.infRung = 9218868437227405312 := by decide
    have i2 : Ieee.double.signWeight = 9223372036854775808 := by decide
    unfold Ieee.Format.word at e2
    rw [i2] at e2; rw [i1] at h2
    split at e2 <;> omega
  clear hyz hyb hzz hrz cz hsr
  go_enter Try.func5, Try.ntmps5
  go_wp2_with fail
  refine (short_any2 x _ hx).mono ?_
  rintro e w1 ⟨ry, ly, y, n1, rfl, HC, HS, rfl⟩
  have hcy : ∀ w, (convert 27 22 (.float .f32 ry)).run Try.prog w = .ok (.float .f64 y) w := fun w => run_convert_float_float w 27 22 .f32 .f64 ry y (by rw [Try.underlying27]; rfl) Try.underlying22 HC.out
  obtain ⟨HY, HL⟩ : Hid (isD y (nz zx)) ∧ Hid (isD ly (zx - nz zx)) := by
    rcases HS.out with ⟨z1, _, h1, _, h3, h4, _⟩ | ⟨h1, _⟩
    · rw [HZ.out.uniq h1]; exact ⟨h3, h4⟩
    · have := h1 zx HZ.out; have := HB.out; omega
  have hsum : ∀ W, (FloatKind.f64.format.order (fres .add y ly W) x != some .eq) = false := fun W => by
    have h1 : isD (fres .add y ly W) zx := by
      have := fadd_d HY.out HL.out (by rw [show nz zx + (zx - nz zx) = zx from by omega]; exact HZ.out.rep) W
      rwa [show nz zx + (zx - nz zx) = zx from by omega] at this
    have := eq_d h1 HZ.out
    simp only [decide_true, beq_iff_eq] at this
    rw [this]; rfl
  clear HS
  go_wp2_with (simp only [hcy, hsum, hcz])
  refine (short_any2 yz _ hyl).mono ?_
  rintro e w1 ⟨rw_, lw, yw, n2, rfl, HC2, HS2, rfl⟩
  obtain ⟨hown, hnone⟩ : (FloatKind.f32.format.order rw_ z != some .eq) = false ∧ (FloatKind.f64.format.order lw 0 != some .eq) = false := by
    rcases HS2.out with ⟨z1, s1, h1, _, _, h4, h5, h6⟩ | ⟨h1, _⟩
    · obtain rfl := isD.uniq HYZ.out h1
      rw [natAbs_sgn, KK_own] at h6
      rw [natAbs_sgn] at h5
      rw [nz_own, Int.sub_self] at h4
      refine ⟨?_, ?_⟩
      · rw [h6, HZZ.out]; exact eq32 HRZ.out h5.symm
      · have := eq_d h4 zero_d
        simp only [decide_true, beq_iff_eq] at this
        rw [this]; rfl
    · have := h1 _ HYZ.out; have := HYB.out; omega
  clear HS2 HC2
  go_wp2_with (simp only [hsz, hsr0, hown, hnone])
  refine (away_d x zx _ HZ.out).mono ?_
  rintro e w1 ⟨sz, rfl, HSZ, rfl⟩
  go_wp2_with fail
  go_loopw [11, 12] (fun l i wr => ∃ (k p d : Nat), k ≤ 103 ∧ l = .float .f64 p ∧ i = .int .i64 (k : Nat) ∧ Hid (isD p (tp (1074 + k))) ∧ wr = w.drewN d) (fun _ i _ => 103 - (intOf i).toNat)
  case atStart => exact ⟨0, _, _, Nat.zero_le _, rfl, rfl, one_d, rfl⟩
  case round =>
    obtain ⟨k, p, d, hk, rfl, rfl, HP, rfl⟩ := hrel
    by_cases hlt : k < 103
    · have z1 : (k : Int) < 103 := by omega
      have FN : Hid (∀ W, isD (fres .mul 4611686018427387904 p W) (tp (1074 + (k + 1)))) := Mm.hid fun W => fmul_d two_d HP.out (by rw [tp_mul, tp_mul]; congr 1; omega) (rep_tp _ (by omega)) W
      go_wp2
      go_roundw
      case rel => exact ⟨k + 1, _, _, by omega, rfl, by go_num, FN.out _, rfl⟩
      case measure => simp [intOf]; omega
    · obtain rfl : k = 103 := by omega
      have LM : ∀ W, isD (fres .mul p 4719772409215844352 W) (BB : Int) := fun W => lim_d HP.out W
      have hge : ∀ W, (FloatKind.f64.format.order sz (fres .mul p 4719772409215844352 W) == some .gt || FloatKind.f64.format.order sz (fres .mul p 4719772409215844352 W) == some .eq) = false := fun W => by rw [ge_d HSZ.out (LM W)]; have := HB.out; simp; omega
      go_wp2_with (first | fail | simp only [hge])
      refine (away_d ly _ _ HL.out).mono ?_
      rintro e w1 ⟨la, rfl, HLA, rfl⟩
      go_wp2_with (simp only [hcz])
      obtain ⟨v, HV, hv⟩ := sub_ge HZ.out HYZ.out HB.out HYB.out (rep_rest HZ.out.rep) (nearest_z zx s rz) _
      refine (away_d _ v _ HV).mono ?_
      rintro e w1 ⟨lb, rfl, HLB, rfl⟩
      have hle : (FloatKind.f64.format.order la lb == some .lt || FloatKind.f64.format.order la lb == some .eq) = true := by rw [le_d HLA.out HLB.out]; simp; omega
      clear hv
      go_wp2_with (simp only [hle])
      go_ret
      exact ⟨rfl, _, rfl⟩
set_option maxRecDepth 100000 in
set_option maxHeartbeats 8000000 in
theorem near_in_huge (x z : Nat) (w : World) (hx : x < 2 ^ 64) (hn : (FloatKind.f64.format.order x x != some .eq) = false) (zx : Int) (hz : isD x zx) (hb : zx.natAbs < BB) (cv : World → Nat) (cd : Nat) (HG : Huge z cv cd) : Calls Try.prog 5 #[.float .f64 x, .float .f32 z] w fun e w' => e = .returned (.bool true) ∧ ∃ n, w' = w.drewN n := by
  have HZ := Mm.hid hz
  have HB := Mm.hid hb
  clear hz hb
  have hcz := HG.conv
  have hsz := HG.sub
  have hgz := HG.huge
  have H := Mm.hid HG
  clear HG
  go_enter Try.func5, Try.ntmps5
  go_wp2_with fail
  refine (short_any2 x _ hx).mono ?_
  rintro e w1 ⟨ry, ly, y, n1, rfl, HC, HS, rfl⟩
  have hcy : ∀ w, (convert 27 22 (.float .f32 ry)).run Try.prog w = .ok (.float .f64 y) w := fun w => run_convert_float_float w 27 22 .f32 .f64 ry y (by rw [Try.underlying27]; rfl) Try.underlying22 HC.out
  obtain ⟨HY, HL⟩ : Hid (isD y (nz zx)) ∧ Hid (isD ly (zx - nz zx)) := by
    rcases HS.out with ⟨z1, _, h1, _, h3, h4, _⟩ | ⟨h1, _⟩
    · rw [HZ.out.uniq h1]; exact ⟨h3, h4⟩
    · have := h1 zx HZ.out; have := HB.out; omega
  have hsum : ∀ W, (FloatKind.f64.format.order (fres .add y ly W) x != some .eq) = false := fun W => by
    have h1 : isD (fres .add y ly W) zx := by
      have := fadd_d HY.out HL.out (by rw [show nz zx + (zx - nz zx) = zx from by omega]; exact HZ.out.rep) W
      rwa [show nz zx + (zx - nz zx) = zx from by omega] at this
    have := eq_d h1 HZ.out
    simp only [decide_true, beq_iff_eq] at this
    rw [this]; rfl
  clear HS
  go_wp2_with (simp only [hcy, hsum, hcz])
  refine (short_any2 (cv _) _ (H.out.lt _)).mono ?_
  rintro e w1 ⟨rw_, lw, yw, n2, rfl, HC2, HS2, rfl⟩
  obtain ⟨rfl, rfl, rfl⟩ : rw_ = 0 ∧ yw = 0 ∧ lw = cv _ := by
    rcases HS2.out with ⟨z1, _, h1, h2, _⟩ | ⟨_, h2⟩
    · exact absurd h1 (H.out.out _ _)
    · exact h2
  have hzz0 : (FloatKind.f32.format.order 0 0 != some .eq) = false := by decide
  clear HS2 HC2
  go_wp2_with (simp only [hsz, hgz, hzz0])
  refine (away_d x zx _ HZ.out).mono ?_
  rintro e w1 ⟨sz, rfl, HSZ, rfl⟩
  go_wp2_with fail
  go_loopw [11, 12] (fun l i wr => ∃ (k p d : Nat), k ≤ 103 ∧ l = .float .f64 p ∧ i = .int .i64 (k : Nat) ∧ Hid (isD p (tp (1074 + k))) ∧ wr = w.drewN d) (fun _ i _ => 103 - (intOf i).toNat)
  case atStart => exact ⟨0, _, _, Nat.zero_le _, rfl, rfl, one_d, rfl⟩
  case round =>
    obtain ⟨k, p, d, hk, rfl, rfl, HP, rfl⟩ := hrel
    by_cases hlt : k < 103
    · have z1 : (k : Int) < 103 := by omega
      have FN : Hid (∀ W, isD (fres .mul 4611686018427387904 p W) (tp (1074 + (k + 1)))) := Mm.hid fun W => fmul_d two_d HP.out (by rw [tp_mul, tp_mul]; congr 1; omega) (rep_tp _ (by omega)) W
      go_wp2
      go_roundw
      case rel => exact ⟨k + 1, _, _, by omega, rfl, by go_num, FN.out _, rfl⟩
      case measure => simp [intOf]; omega
    · obtain rfl : k = 103 := by omega
      have LM : ∀ W, isD (fres .mul p 4719772409215844352 W) (BB : Int) := fun W => lim_d HP.out W
      have hge : ∀ W, (FloatKind.f64.format.order sz (fres .mul p 4719772409215844352 W) == some .gt || FloatKind.f64.format.order sz (fres .mul p 4719772409215844352 W) == some .eq) = false := fun W => by rw [ge_d HSZ.out (LM W)]; have := HB.out; simp; omega
      go_wp2_with (simp only [hge])
      go_ret
      exact ⟨rfl, _, rfl⟩
set_option maxRecDepth 100000 in
set_option maxHeartbeats 8000000 in
theorem near_out_fin (x z : Nat) (w : World) (hx : x < 2 ^ 64) (hn : (FloatKind.f64.format.order x x != some .eq) = false) (ho : ∀ z, isD x z → BB ≤ z.natAbs) (hadd : ∀ W, (FloatKind.f64.format.order (fres .add 0 x W) x != some .eq) = false) (s : Bool) (rz : Nat) (hzz : z = Ieee.single.word s rz) (hrz : rz < Ieee.single.infRung) : Calls Try.prog 5 #[.float .f64 x, .float .f32 z] w fun e w' => e = .returned (.bool true) ∧ ∃ n, w' = w.drewN n := by
  have HO := Mm.hid ho
  clear ho
  obtain ⟨yz, cz, hyz⟩ := of_single s hrz
  rw [← hzz] at cz
  have hyb : (sgn s (rv Ieee.single rz * 2 ^ 925)).natAbs < BB := by rw [natAbs_sgn]; exact single_lt hrz
  have hcz : ∀ w, (convert 27 22 (.float .f32 z)).run Try.prog w = .ok (.float .f64 yz) w := fun w => run_convert_float_float w 27 22 .f32 .f64 z yz (by rw [Try.underlying27]; rfl) Try.underlying22 cz
  obtain ⟨sr, hsr, hsr0⟩ : ∃ sr, floatBits .sub .f32 z z = some sr ∧ (FloatKind.f32.format.order sr 0 != some .eq) = false := by
    have hz1 : IsF Ieee.single z (sgn s (rv Ieee.single rz)) := ⟨s, rz, hzz, hrz, rfl⟩
    obtain ⟨r, h1, h2⟩ := sub_exact Ieee.single hz1 hz1 (by rw [Int.sub_self]; exact ⟨⟨0, 0, rfl, by decide⟩, by rw [sgl_inf]; exact Nat.mul_pos (by decide) (Nat.two_pow_pos _)⟩)
    rw [Int.sub_self] at h2
    refine ⟨r, h1, ?_⟩
    have : FloatKind.f32.format.order r 0 = some (compare (0 : Int) 0) := order_isF Ieee.single h2 ⟨false, 0, by decide, by decide, by rw [rv_zero]; rfl⟩
    rw [this]; rfl
  have hsz : ∀ (t : TypeId) (w : World), (binOp .sub t (.float .f32 z) (.float .f32 z)).run Try.prog w = .ok (.float .f32 sr) w := fun t w => run_float_arith w .sub t .f32 z z sr hsr
  have HYZ : Hid (isD yz (sgn s (rv Ieee.single rz * 2 ^ 925))) := hyz
  have HYB := Mm.hid hyb
  have HZZ := Mm.hid hzz
  have HRZ := Mm.hid hrz
  have hyl : yz < 2 ^ 64 := by
    obtain ⟨s2, r2, e2, h2, _⟩ := hyz
    have i1 : Ieee.double.infRung = 9218868437227405312 := by decide
    have i2 : Ieee.double.signWeight = 9223372036854775808 := by decide
    unfold Ieee.Format.word at e2
    rw [i2] at e2; rw [i1] at h2
    split at e2 <;> omega
  clear hyz hyb hzz hrz cz hsr
  go_enter Try.func5, Try.ntmps5
  go_wp2_with fail
  refine (short_any2 x _ hx).mono ?_
  rintro e w1 ⟨ry, ly, y, n1, rfl, HC, HS, rfl⟩
  have hcy : ∀ w, (convert 27 22 (.float .f32 ry)).run Try.prog w = .ok (.float .f64 y) w := fun w => run_convert_float_float w 27 22 .f32 .f64 ry y (by rw [Try.underlying27]; rfl) Try.underlying22 HC.out
  obtain ⟨rfl, rfl, rfl⟩ : ry = 0 ∧ y = 0 ∧ ly = x := by
    rcases HS.out with ⟨z1, _, h1, h2, _⟩ | ⟨_, h2⟩
    · have := HO.out z1 h1; omega
    · exact h2
  have hsum := hadd
  clear HS
  go_wp2_with (simp only [hcy, hsum, hcz])
  refine (short_any2 yz _ hyl).mono ?_
  rintro e w1 ⟨rw_, lw, yw, n2, rfl, HC2, HS2, rfl⟩
  obtain ⟨hown, hnone⟩ : (FloatKind.f32.format.order rw_ z != some .eq) = false ∧ (FloatKind.f64.format.order lw 0 != some .eq) = false := by
    rcases HS2.out with ⟨z1, s1, h1, _, _, h4, h5, h6⟩ | ⟨h1, _⟩
    · obtain rfl := isD.uniq HYZ.out h1
      rw [natAbs_sgn, KK_own] at h6
      rw [natAbs_sgn] at h5
      rw [nz_own, Int.sub_self] at h4
      refine ⟨?_, ?_⟩
      · rw [h6, HZZ.out]; exact eq32 HRZ.out h5.symm
      · have := eq_d h4 zero_d
        simp only [decide_true, beq_iff_eq] at this
        rw [this]; rfl
    · have := h1 _ HYZ.out; have := HYB.out; omega
  clear HS2 HC2
  go_wp2_with (simp only [hsz, hsr0, hown, hnone])
  refine (away_big _ _ hx HO.out hn).mono ?_
  rintro e w1 ⟨sz, rfl, HSZ, rfl⟩
  go_wp2_with fail
  go_loopw [11, 12] (fun l i wr => ∃ (k p d : Nat), k ≤ 103 ∧ l = .float .f64 p ∧ i = .int .i64 (k : Nat) ∧ Hid (isD p (tp (1074 + k))) ∧ wr = w.drewN d) (fun _ i _ => 103 - (intOf i).toNat)
  case atStart => exact ⟨0, _, _, Nat.zero_le _, rfl, rfl, one_d, rfl⟩
  case round =>
    obtain ⟨k, p, d, hk, rfl, rfl, HP, rfl⟩ := hrel
    by_cases hlt : k < 103
    · have z1 : (k : Int) < 103 := by omega
      have FN : Hid (∀ W, isD (fres .mul 4611686018427387904 p W) (tp (1074 + (k + 1)))) := Mm.hid fun W => fmul_d two_d HP.out (by rw [tp_mul, tp_mul]; congr 1; omega) (rep_tp _ (by omega)) W
      go_wp2
      go_roundw
      case rel => exact ⟨k + 1, _, _, by omega, rfl, by go_num, FN.out _, rfl⟩
      case measure => simp [intOf]; omega
    · obtain rfl : k = 103 := by omega
      have LM : ∀ W, isD (fres .mul p 4719772409215844352 W) (BB : Int) := fun W => lim_d HP.out W
      have hge : ∀ W, (FloatKind.f64.format.order sz (fres .mul p 4719772409215844352 W) == some .gt || FloatKind.f64.format.order sz (fres .mul p 4719772409215844352 W) == some .eq) = true := fun W => HSZ.out _ (LM W)
      have hy0 : (FloatKind.f32.format.order 0 0 == some .eq) = true := by decide
      go_wp2_with (simp only [hge, hy0])
      go_ret
      exact ⟨rfl, _, rfl⟩
set_option maxRecDepth 100000 in
set_option maxHeartbeats 8000000 in
theorem near_out_huge (x z : Nat) (w : World) (hx : x < 2 ^ 64) (hn : (FloatKind.f64.format.order x x != some .eq) = false) (ho : ∀ z, isD x z → BB ≤ z.natAbs) (hadd : ∀ W, (FloatKind.f64.format.order (fres .add 0 x W) x != some .eq) = false) (cv : World → Nat) (cd : Nat) (HG : Huge z cv cd) : Calls Try.prog 5 #[.float .f64 x, .float .f32 z] w fun e w' => e = .returned (.bool true) ∧ ∃ n, w' = w.drewN n := by
  have HO := Mm.hid ho
  clear ho
  have hcz := HG.conv
  have hsz := HG.sub
  have hgz := HG.huge
  have H := Mm.hid HG
  clear HG
  go_enter Try.func5, Try.ntmps5
  go_wp2_with fail
  refine (short_any2 x _ hx).mono ?_
  rintro e w1 ⟨ry, ly, y, n1, rfl, HC, HS, rfl⟩
  have hcy : ∀ w, (convert 27 22 (.float .f32 ry)).run Try.prog w = .ok (.float .f64 y) w := fun w => run_convert_float_float w 27 22 .f32 .f64 ry y (by rw [Try.underlying27]; rfl) Try.underlying22 HC.out
  obtain ⟨rfl, rfl, rfl⟩ : ry = 0 ∧ y = 0 ∧ ly = x := by
    rcases HS.out with ⟨z1, _, h1, h2, _⟩ | ⟨_, h2⟩
    · have := HO.out z1 h1; omega
    · exact h2
  have hsum := hadd
  clear HS
  go_wp2_with (simp only [hcy, hsum, hcz])
  refine (short_any2 (cv _) _ (H.out.lt _)).mono ?_
  rintro e w1 ⟨rw_, lw, yw, n2, rfl, HC2, HS2, rfl⟩
  obtain ⟨rfl, rfl, rfl⟩ : rw_ = 0 ∧ yw = 0 ∧ lw = cv _ := by
    rcases HS2.out with ⟨z1, _, h1, h2, _⟩ | ⟨_, h2⟩
    · exact absurd h1 (H.out.out _ _)
    · exact h2
  have hzz0 : (FloatKind.f32.format.order 0 0 != some .eq) = false := by decide
  clear HS2 HC2
  go_wp2_with (simp only [hsz, hgz, hzz0])
  refine (away_big _ _ hx HO.out hn).mono ?_
  rintro e w1 ⟨sz, rfl, HSZ, rfl⟩
  go_wp2_with fail
  go_loopw [11, 12] (fun l i wr => ∃ (k p d : Nat), k ≤ 103 ∧ l = .float .f64 p ∧ i = .int .i64 (k : Nat) ∧ Hid (isD p (tp (1074 + k))) ∧ wr = w.drewN d) (fun _ i _ => 103 - (intOf i).toNat)
  case atStart => exact ⟨0, _, _, Nat.zero_le _, rfl, rfl, one_d, rfl⟩
  case round =>
    obtain ⟨k, p, d, hk, rfl, rfl, HP, rfl⟩ := hrel
    by_cases hlt : k < 103
    · have z1 : (k : Int) < 103 := by omega
      have FN : Hid (∀ W, isD (fres .mul 4611686018427387904 p W) (tp (1074 + (k + 1)))) := Mm.hid fun W => fmul_d two_d HP.out (by rw [tp_mul, tp_mul]; congr 1; omega) (rep_tp _ (by omega)) W
      go_wp2
      go_roundw
      case rel => exact ⟨k + 1, _, _, by omega, rfl, by go_num, FN.out _, rfl⟩
      case measure => simp [intOf]; omega
    · obtain rfl : k = 103 := by omega
      have LM : ∀ W, isD (fres .mul p 4719772409215844352 W) (BB : Int) := fun W => lim_d HP.out W
      have hge : ∀ W, (FloatKind.f64.format.order sz (fres .mul p 4719772409215844352 W) == some .gt || FloatKind.f64.format.order sz (fres .mul p 4719772409215844352 W) == some .eq) = true := fun W => HSZ.out _ (LM W)
      have hy0 : (FloatKind.f32.format.order 0 0 == some .eq) = true := by decide
      go_wp2_with (simp only [hge, hy0])
      go_ret
      exact ⟨rfl, _, rfl⟩
theorem add_out (x : Nat) (hx : x < 2 ^ 64) (hn : (FloatKind.f64.format.order x x != some .eq) = false) (W : World) : (FloatKind.f64.format.order (fres .add 0 x W) x != some .eq) = false := by
  rcases kinds x hx with h | ⟨s, rfl⟩ | ⟨z, hz⟩
  · have : FloatKind.f64.format.order x x = none := order_nan (.inl h)
    rw [this] at hn; cases hn
  · have e : floatBits .add .f64 0 (Ieee.double.word s Ieee.double.infRung) = some (Ieee.double.word s Ieee.double.infRung) := by cases s <;> decide
    rw [fres_of e]; exact hn
  · have h1 : isD (fres .add 0 x W) z := by
      have := fadd_d zero_d hz (by rw [Int.zero_add]; exact hz.rep) W
      rwa [Int.zero_add] at this
    have := eq_d h1 hz
    simp only [decide_true, beq_iff_eq] at this
    rw [this]; rfl
set_option maxHeartbeats 1000000 in
theorem law_near (x z : Nat) (w : World) (hx : (Lit.float .f64 x).wf = true) (hz : (Lit.float .f32 z).wf = true) : Calls Try.prog 5 #[.float .f64 x, .float .f32 z] w fun e w' => e = .returned (.bool true) ∧ Below w.heap.size w w' := by
  have hx : x < 2 ^ 64 := by simpa [Lit.wf] using hx
  have hz : z < 2 ^ 32 := by simpa [Lit.wf] using hz
  have main : Calls Try.prog 5 #[.float .f64 x, .float .f32 z] w fun e w' => e = .returned (.bool true) ∧ ∃ n, w' = w.drewN n := by
    cases hn : (FloatKind.f64.format.order x x != some .eq) with
    | true =>
      clear hx hz
      go_enter Try.func5, Try.ntmps5
      go_wp2
      go_ret
      exact ⟨rfl, 0, rfl⟩
    | false =>
      by_cases hin : ∃ u, isD x u ∧ u.natAbs < BB
      · obtain ⟨u, hu, hb⟩ := hin
        rcases kinds32 z hz with h | h | ⟨s, r, h1, h2⟩
        · obtain ⟨cv, cd, HG⟩ := huge_of z (.inl h)
          exact near_in_huge x z w hx hn u hu hb cv cd HG
        · obtain ⟨cv, cd, HG⟩ := huge_of z (.inr h)
          exact near_in_huge x z w hx hn u hu hb cv cd HG
        · exact near_in_fin x z w hx hn u hu hb s r h1 h2
      · have ho : ∀ u, isD x u → BB ≤ u.natAbs := fun u hu => Nat.le_of_not_lt fun h => hin ⟨u, hu, h⟩
        rcases kinds32 z hz with h | h | ⟨s, r, h1, h2⟩
        · obtain ⟨cv, cd, HG⟩ := huge_of z (.inl h)
          exact near_out_huge x z w hx hn ho (add_out x hx hn) cv cd HG
        · obtain ⟨cv, cd, HG⟩ := huge_of z (.inr h)
          exact near_out_huge x z w hx hn ho (add_out x hx hn) cv cd HG
        · exact near_out_fin x z w hx hn ho (add_out x hx hn) s r h1 h2
  refine main.mono ?_
  rintro e w' ⟨rfl, n, rfl⟩
  exact ⟨rfl, below_drewN n⟩
end Go.Proofs.Ytbhchnfdhdjfnaa

/- Walks: Short, the program's and the document's. -/
import Derived.Test.YtbhchnfdhdjfnaaShortP
namespace Go.Proofs.Ytbhchnfdhdjfnaa
set_option exponentiation.threshold 3000
set_option linter.unusedSimpArgs false
open Go.RowKit Go.Mm
theorem bb_rv : rv Ieee.double 5183643170835005440 = BB := by
  rw [show 5183643170835005440 = 1149 * Ieee.double.binade + 33554431 * 2 ^ 28 from by decide, rv_at Ieee.double 1149 (33554431 * 2 ^ 28) (by decide) (.inr (by decide))]
  unfold BB
  rw [Nat.mul_assoc, ← Nat.pow_add]
theorem bb_d : isD 5183643170835005440 (BB : Int) := ⟨false, 5183643170835005440, by decide, by decide, by rw [bb_rv]; rfl⟩
theorem bbn_d : isD 14407015207689781248 (-(BB : Int)) := ⟨true, 5183643170835005440, by decide, by decide, by rw [bb_rv]; rfl⟩
theorem zero_d : isD 0 0 := ⟨false, 0, by decide, by decide, by rw [rv_zero]; rfl⟩
theorem half_d : isD 4602678819172646912 (tp 1073) := by
  refine ⟨false, 4602678819172646912, by decide, by decide, ?_⟩
  rw [show 4602678819172646912 = 1021 * Ieee.double.binade + 2 ^ 52 from by decide, rv_at Ieee.double 1021 (2 ^ 52) (by decide) (.inr (by decide)), ← Nat.pow_add]
  rfl
/-- what a Short gives, the float32 written as a float -/
def Sh (x y l : Nat) : Prop :=
  (∃ z, isD x z ∧ z.natAbs < BB ∧ isD y (nz z) ∧ isD l (z - nz z)) ∨ ((∀ z, isD x z → BB ≤ z.natAbs) ∧ y = 0 ∧ l = x)
def ShortEnds (x : Nat) (w : World) (e : Ending) (w' : World) : Prop :=
  ∃ r l y n, e = .returned (.tuple #[.float .f32 r, .float .f64 l]) ∧ Hid (floatToFloatBits .f32 r .f64 = some y) ∧ Hid (Sh x y l) ∧ w' = w.drewN n
theorem no_inf (s : Bool) (z : Int) : ¬ isD (Ieee.double.word s Ieee.double.infRung) z := by
  rintro ⟨t, r, h, hr, _⟩
  have h1 : Ieee.double.infRung = 9218868437227405312 := by decide
  have h2 : Ieee.double.signWeight = 9223372036854775808 := by decide
  unfold Ieee.Format.word at h
  rw [h1, h2] at h
  rw [h1] at hr
  cases s <;> cases t <;> simp at h <;> omega
theorem no_nan {x : Nat} (h : (Ieee.double.read x).isNaN = true) (z : Int) : ¬ isD x z := by
  intro k
  obtain ⟨s, m, p, e, _⟩ := k.read
  rw [e] at h
  cases h
theorem inf_words : Ieee.double.word false Ieee.double.infRung = 9218868437227405312 ∧ Ieee.double.word true Ieee.double.infRung = 18442240474082181120 := by decide
theorem zero_there : floatToFloatBits .f32 0 .f64 = some 0 := by decide
/-- when a float lies outside -/
theorem outside (x : Nat) (h : x < 2 ^ 64) (ho : ∀ z, isD x z → BB ≤ z.natAbs) : (FloatKind.f64.format.order x 14407015207689781248 == some .gt) = false ∨ ((FloatKind.f64.format.order x 14407015207689781248 == some .gt) = true ∧ (FloatKind.f64.format.order x 5183643170835005440 == some .lt) = false) := by
  rcases kinds x h with hn | ⟨s, rfl⟩ | ⟨z, hz⟩
  · left
    have : FloatKind.f64.format.order x 14407015207689781248 = none := order_nan (.inl hn)
    rw [this]; rfl
  · cases s
    · right; rw [inf_words.1]; decide
    · left; rw [inf_words.2]; decide
  · have hb := ho z hz
    rw [gt_d hz bbn_d, lt_d hz bb_d]
    have : 0 < BB := by unfold BB; exact Nat.mul_pos (by decide) (Nat.two_pow_pos _)
    by_cases h1 : -(BB : Int) < z
    · right; simp [h1]; omega
    · left; simp [h1]
set_option maxRecDepth 100000 in
set_option maxHeartbeats 4000000 in
theorem short_any (x : Nat) (w : World) (hx : x < 2 ^ 64) : Calls Try.prog 19 #[.float .f64 x] w (ShortEnds x w) := by
  by_cases hin : ∃ z, isD x z ∧ z.natAbs < BB
  · obtain ⟨z, hz, hb⟩ := hin
    obtain ⟨r, y, e1, e2, hy⟩ := there_back hz hb
    have h1 : (FloatKind.f64.format.order x 14407015207689781248 == some .gt) = true := by rw [gt_d hz bbn_d]; simp; omega
    have h2 : (FloatKind.f64.format.order x 5183643170835005440 == some .lt) = true := by rw [lt_d hz bb_d]; simp; omega
    have hc1 : ∀ w, (convert 22 27 (.float .f64 x)).run Try.prog w = .ok (.float .f32 r) w := fun w => run_convert_float_float w 22 27 .f64 .f32 x r (by rw [Try.underlying22]; rfl) Try.underlying27 e1
    have hc2 : ∀ w, (convert 27 22 (.float .f32 r)).run Try.prog w = .ok (.float .f64 y) w := fun w => run_convert_float_float w 27 22 .f32 .f64 r y (by rw [Try.underlying27]; rfl) Try.underlying22 e2
    have FS : Hid (∀ W, isD (fres .sub x y W) (z - nz z)) := Mm.hid fun W => fsub_d hz hy (rep_rest hz.rep) W
    have E2 := Mm.hid e2
    have HZ := Mm.hid hz
    have HY := Mm.hid hy
    have HB := Mm.hid hb
    clear e1 e2 hz hy hb
    go_enter Try.func19, Try.ntmps19
    go_wp2_with (simp only [hc1, hc2])
    go_ret2
    exact ⟨r, _, y, _, rfl, E2, Mm.hid (.inl ⟨z, HZ.out, HB.out, HY.out, FS.out _⟩), rfl⟩
  · have ho : ∀ z, isD x z → BB ≤ z.natAbs := fun z hz => Nat.le_of_not_lt fun h => hin ⟨z, hz, h⟩
    have HO := Mm.hid ho
    rcases outside x hx ho with h1 | ⟨h1, h2⟩
    all_goals
      clear ho hin
      go_enter Try.func19, Try.ntmps19
      go_wp2
      go_ret2
      exact ⟨0, x, 0, 0, rfl, Mm.hid zero_there, Mm.hid (.inr ⟨HO.out, rfl, rfl⟩), rfl⟩
def RShortEnds (x : Nat) (w : World) (e : Ending) (w' : World) : Prop :=
  ∃ y l n, e = .returned (.tuple #[.float .f64 y, .float .f64 l]) ∧ Hid (Sh x y l) ∧ w' = w.drewN n

theorem tp_ne (n : Nat) : tp n ≠ 0 := by have := tp_pos n; omega
theorem bb_tp : (BB : Int) = 33554431 * tp 1177 := by unfold BB tp; rw [Int.natCast_mul]; rfl
theorem rep_small (a t : Nat) (ha : a < 9007199254740992) (ht : t ≤ 2045) : Rep Ieee.double ((a : Int) * tp t) := by
  unfold tp
  refine ⟨⟨a, t, by rw [← Int.natCast_mul, Int.natAbs_natCast], by rw [dbl_binade]; exact ha⟩, ?_⟩
  rw [← Int.natCast_mul, Int.natAbs_natCast, dbl_inf, km_eq, ← Nat.pow_add]
  calc a * 2 ^ t < 2 ^ 53 * 2 ^ t := Nat.mul_lt_mul_of_pos_right (by simpa using ha) (Nat.two_pow_pos _)
    _ = 2 ^ (53 + t) := by rw [Nat.pow_add]
    _ ≤ 2 ^ (52 + 2046) := Nat.pow_le_pow_right (by decide) (by omega)
theorem beyond_d {p q : Nat} (hp : isD p (tp 1201)) (hq : isD q (tp 1050)) (W W' : World) : isD (fres .mul p (fres .sub 4611686018427387904 q W) W') (BB : Int) := by
  have e : tp 1075 - tp 1050 = ((33554431 : Nat) : Int) * tp 1050 := by
    rw [show tp 1075 = tp 25 * tp 1050 from by rw [tp_mul], show tp 25 = 33554432 from rfl]
    generalize tp 1050 = t
    omega
  have h1 : isD (fres .sub 4611686018427387904 q W) (((33554431 : Nat) : Int) * tp 1050) := by
    rw [← e]
    exact fsub_d two_d hq (by rw [e]; exact rep_small _ _ (by decide) (by decide)) W
  refine fmul_d hp h1 ?_ ?_ W'
  · rw [bb_tp, Int.mul_assoc, tp_mul, Int.mul_left_comm, tp_mul]; rfl
  · rw [bb_tp]; exact rep_small 33554431 1177 (by decide) (by decide)
def Big (s : Nat) : Prop := ∀ p, isD p (BB : Int) → (FloatKind.f64.format.order s p == some .gt || FloatKind.f64.format.order s p == some .eq) = true
theorem ge_d {x y : Nat} {z u : Int} (hx : isD x z) (hy : isD y u) : (FloatKind.f64.format.order x y == some .gt || FloatKind.f64.format.order x y == some .eq) = decide (u ≤ z) := by
  rw [gt_d hx hy, eq_d hx hy]
  by_cases h : u < z
  · simp [h]; omega
  · by_cases h2 : z = u
    · simp [h2]
    · simp [h, h2]; omega
theorem big_inf : Big 9218868437227405312 := by
  intro p hp
  obtain ⟨s, m, q, e, _⟩ := hp.read
  have : FloatKind.f64.format.order 9218868437227405312 p = some .gt := by
    show Ieee.double.order 9218868437227405312 p = _
    unfold Ieee.Format.order
    rw [e, show Ieee.double.read 9218868437227405312 = .infinity false from by decide]
    rfl
  rw [this]; rfl
theorem outside_ref (x : Nat) (h : x < 2 ^ 64) (ho : ∀ z, isD x z → BB ≤ z.natAbs) :
    ((FloatKind.f64.format.order x 0 == some .lt) = false ∧ (FloatKind.f64.format.order x x != some .eq) = true) ∨
    ((FloatKind.f64.format.order x 0 == some .lt) = false ∧ (FloatKind.f64.format.order x x != some .eq) = false ∧ Big x) ∨
    ((FloatKind.f64.format.order x 0 == some .lt) = true ∧ (FloatKind.f64.format.order x x != some .eq) = false ∧ Big (Op.negFloat .f64 x)) := by
  rcases kinds x h with hn | ⟨s, rfl⟩ | ⟨z, hz⟩
  · left
    have h1 : FloatKind.f64.format.order x 0 = none := order_nan (.inl hn)
    have h2 : FloatKind.f64.format.order x x = none := order_nan (.inl hn)
    rw [h1, h2]; exact ⟨rfl, rfl⟩
  · right
    cases s
    · left; rw [inf_words.1]; exact ⟨by decide, by decide, big_inf⟩
    · right; rw [inf_words.2]; exact ⟨by decide, by decide, big_inf⟩
  · right
    have hb := ho z hz
    have hx : (FloatKind.f64.format.order x x != some .eq) = false := by
      have := eq_d hz hz
      simp at this
      simp [this]
    by_cases hneg : z < 0
    · right
      refine ⟨by rw [lt_d hz zero_d]; simpa using hneg, hx, fun p hp => ?_⟩
      rw [ge_d (neg_d hz) hp]; simp; omega
    · left
      refine ⟨by rw [lt_d hz zero_d]; simpa using hneg, hx, fun p hp => ?_⟩
      rw [ge_d hz hp]; simp; omega
theorem log_E {N i : Nat} (h : N.log2 - 948 ≤ i) : N < 2 ^ (949 + i) := by
  by_cases h0 : N = 0
  · subst h0; exact Nat.two_pow_pos _
  · exact Nat.lt_of_lt_of_le Nat.lt_log2_self (Nat.pow_le_pow_right (by decide) (by omega))
theorem log_E' {N i : Nat} (h : i < N.log2 - 948) : 2 ^ (949 + i) ≤ N := by
  have h0 : N ≠ 0 := by rintro rfl; rw [Nat.log2_zero] at h; omega
  exact Nat.le_trans (Nat.pow_le_pow_right (by decide) (by omega)) (Nat.log2_self_le h0)
theorem E_le {N : Nat} (h : N < BB) : N.log2 - 948 ≤ 253 := by
  have : N.log2 ≤ 1201 := log_lt (Nat.lt_trans h BB_lt)
  omega
/-- all that stands behind the division by the unit -/
structure Rest (x : Nat) (z : Int) (s p : Nat) (U R K : Nat) : Prop where
  cq : ∀ W w, (convert 22 3 (.float .f64 (fres .quo s p W))).run Try.prog w = .ok (.int .i64 ((U : Nat) : Int)) w
  gt : ∀ W W', (FloatKind.f64.format.order (fres .sub (fres .quo s p W) (floatOfInt .f64 ((U : Nat) : Int)) W') 4602678819172646912 == some .gt) = decide (2 ^ 1073 < R)
  eq : ∀ W W', (FloatKind.f64.format.order (fres .sub (fres .quo s p W) (floatOfInt .f64 ((U : Nat) : Int)) W') 4602678819172646912 == some .eq) = decide (R = 2 ^ 1073)
  k : K = U + if 2 ^ 1073 < R ∨ (R = 2 ^ 1073 ∧ U % 2 = 1) then 1 else 0
  u : U ≤ 16777216
  y : ∀ W, isD (fres .mul (floatOfInt .f64 ((K : Nat) : Int)) p W) ((KK z.natAbs : Nat) : Int)
theorem rest_of {x s p : Nat} {z : Int} (hx : isD x z) (hb : z.natAbs < BB) (hs : isD s (z.natAbs : Int)) (hp : isD p (tp (gE z.natAbs))) : ∃ U R K, Rest x z s p U R K := by
  obtain ⟨v, hv, r1, r2⟩ := quo_val hx.rep.abs
  have hr := rne_quo hv
  have h24 := rne_24 z.natAbs
  have hU : v / 2 ^ kp ≤ 16777216 := by
    rw [hr] at h24; omega
  have FQ : ∀ W, isD (fres .quo s p W) (v : Int) := fun W => fquo_d hs hp (tp_ne _) (by
    unfold tp
    rw [← Int.natCast_mul, ← Int.natCast_mul, hv, kp_eq]) r1 W
  have FU : isD (floatOfInt .f64 ((v / 2 ^ kp : Nat) : Int)) (((v / 2 ^ kp : Nat) : Int) * tp 1074) := dy_d (Dy.ofInt _ (by rw [Int.natAbs_natCast]; omega))
  have hR : (v : Int) - ((v / 2 ^ kp : Nat) : Int) * tp 1074 = ((v % 2 ^ kp : Nat) : Int) := by
    have := Nat.div_add_mod v (2 ^ kp)
    unfold tp
    rw [← kp_eq, ← Int.natCast_mul, Nat.mul_comm (v / 2 ^ kp)]
    omega
  have FR : ∀ W W', isD (fres .sub (fres .quo s p W) (floatOfInt .f64 ((v / 2 ^ kp : Nat) : Int)) W') ((v % 2 ^ kp : Nat) : Int) := fun W W' => by
    have := fsub_d (FQ W) FU (by rw [hR]; exact r2) W'
    rwa [hR] at this
  have h2k : 2 ^ kp = 2 * 2 ^ 1073 := by rw [kp_eq, show 1074 = 1073 + 1 from rfl, Nat.pow_succ, Nat.mul_comm]
  refine ⟨v / 2 ^ kp, v % 2 ^ kp, rne z.natAbs (2 ^ gE z.natAbs), ?_, ?_, ?_, ?_, hU, ?_⟩
  · intro W w
    exact run_convert_float_int w 22 3 .f64 .i64 _ _ (by rw [Try.underlying22]; rfl) Try.underlying3 (toInt_d (FQ W) (by omega))
  · intro W W'
    rw [gt_d (FR W W') half_d]
    unfold tp
    simp only [Int.ofNat_lt]
  · intro W W'
    rw [eq_d (FR W W') half_d]
    unfold tp
    simp only [Int.ofNat_inj]
  · rw [hr]
    refine congrArg (v / 2 ^ kp + ·) ?_
    rw [h2k]
    generalize v % (2 * 2 ^ 1073) = R
    generalize 2 ^ 1073 = H
    have e1 : 2 * H < 2 * R ↔ H < R := by omega
    have e2 : 2 * H = 2 * R ↔ R = H := by omega
    simp only [e1, e2]
  · intro W
    refine fmul_d (dy_d (Dy.ofInt _ (by rw [Int.natAbs_natCast]; omega))) hp ?_ (rep_KK hb) W
    show _ = ((rne z.natAbs (2 ^ gE z.natAbs) * 2 ^ gE z.natAbs : Nat) : Int) * tp 1074
    rw [Int.natCast_mul, Int.mul_right_comm]
    rfl
set_option maxRecDepth 100000 in
set_option maxHeartbeats 8000000 in
theorem rshort_out (x : Nat) (w : World) (hx : x < 2 ^ 64) (ho : ∀ z, isD x z → BB ≤ z.natAbs) : Calls Try.prog 20 #[.float .f64 x] w (RShortEnds x w) := by
  have HO := Mm.hid ho
  rcases outside_ref x hx ho with ⟨h1, h2⟩ | ⟨h1, h2, h3⟩ | ⟨h1, h2, h3⟩
  · clear ho
    go_enter Try.func20, Try.ntmps20
    go_wp2
    go_ret2
    exact ⟨0, x, 0, rfl, Mm.hid (.inr ⟨HO.out, rfl, rfl⟩), rfl⟩
  all_goals
    have H3 := Mm.hid h3
    clear ho h3
    go_enter Try.func20, Try.ntmps20
    go_wp2_with fail
    refine (power_any _ _ (by decide) (by decide)).mono ?_
    rintro e w1 ⟨p, d, rfl, HP, rfl⟩
    go_wp2_with fail
    refine (power_any _ _ (by decide) (by decide)).mono ?_
    rintro e w1 ⟨q, d', rfl, HQ, rfl⟩
    have hb : ∀ W W', (FloatKind.f64.format.order _ (fres .mul p (fres .sub 4611686018427387904 q W) W') == some .gt || FloatKind.f64.format.order _ (fres .mul p (fres .sub 4611686018427387904 q W) W') == some .eq) = true := fun W W' => H3.out _ (beyond_d HP.out HQ.out W W')
    go_wp2_with (simp only [hb])
    go_ret2
    exact ⟨0, x, _, rfl, Mm.hid (.inr ⟨HO.out, rfl, rfl⟩), rfl⟩
set_option maxRecDepth 100000 in
set_option maxHeartbeats 8000000 in
theorem rshort_pos (x : Nat) (z : Int) (w : World) (hz : isD x z) (hb : z.natAbs < BB) (hneg : ¬ z < 0) : Calls Try.prog 20 #[.float .f64 x] w (RShortEnds x w) := by
  have h1 : (FloatKind.f64.format.order x 0 == some .lt) = false := by rw [lt_d hz zero_d]; simpa using hneg
  have h2 : (FloatKind.f64.format.order x x != some .eq) = false := by
    have := eq_d hz hz
    simp at this
    simp [this]
  have hs : isD x (z.natAbs : Int) := by have := hz; rwa [show z = (z.natAbs : Int) from by omega] at this
  have hnz : nz z = ((KK z.natAbs : Nat) : Int) := by unfold nz; rw [if_neg hneg]
  have hE := E_le hb
  have HZ := Mm.hid hz
  have HB := Mm.hid hb
  have HS := Mm.hid hs
  have HN := Mm.hid hnz
  clear hz hb hs hnz hneg
  obtain ⟨E, hEE⟩ : ∃ E, E = z.natAbs.log2 - 948 := ⟨_, rfl⟩
  have HE := Mm.hid hEE
  rw [← hEE] at hE
  clear hEE
  go_enter Try.func20, Try.ntmps20
  go_wp2_with fail
  refine (power_any _ _ (by decide) (by decide)).mono ?_
  rintro e w1 ⟨p, d, rfl, HP, rfl⟩
  go_wp2_with fail
  refine (power_any _ _ (by decide) (by decide)).mono ?_
  rintro e w1 ⟨q, d1, rfl, HQ, rfl⟩
  have hlo : ∀ W W', (FloatKind.f64.format.order (x) (fres .mul p (fres .sub 4611686018427387904 q W) W') == some .gt || FloatKind.f64.format.order (x) (fres .mul p (fres .sub 4611686018427387904 q W) W') == some .eq) = false := fun W W' => by rw [ge_d HS.out (beyond_d HP.out HQ.out W W')]; have := HB.out; simp; omega
  go_wp2_with (simp only [hlo])
  go_loopw [5] (fun e wr => ∃ (i d : Nat), i ≤ E ∧ e = .int .i64 ((i : Nat) - 126) ∧ wr = w.drewN d) (fun e _ => E - (intOf e + 126).toNat)
  case atStart => exact ⟨0, _, Nat.zero_le _, rfl, rfl⟩
  case round =>
    obtain ⟨i, d2, hi, rfl, rfl⟩ := hrel
    clear hlo
    by_cases hiE : i < E
    · have z1 : (i : Int) - 126 < 127 := by omega
      go_wp2_with fail
      refine (power_any _ _ (by omega) (by omega)).mono ?_
      rintro e w1 ⟨p1, d3, rfl, HP1, rfl⟩
      have c1 : (FloatKind.f64.format.order (x) p1 == some .gt || FloatKind.f64.format.order (x) p1 == some .eq) = true := by
        rw [ge_d HS.out HP1.out]
        have := log_E' (N := z.natAbs) (i := i) (by rw [← HE.out]; exact hiE)
        rw [show ((1074 : Int) + ((i : Int) - 126 + 1)).toNat = 949 + i from by omega]
        unfold tp; rw [decide_eq_true_iff]; exact Int.ofNat_le.2 this
      go_wp2
      go_roundw
      case rel => exact ⟨i + 1, _, hiE, by go_num, rfl⟩
      case measure => simp [intOf]; omega
    · obtain rfl : i = E := by omega
      by_cases hi3 : i < 253
      · have z1 : (i : Int) - 126 < 127 := by omega
        go_wp2_with fail
        refine (power_any _ _ (by omega) (by omega)).mono ?_
        rintro e w1 ⟨p1, d3, rfl, HP1, rfl⟩
        have c1 : (FloatKind.f64.format.order (x) p1 == some .gt || FloatKind.f64.format.order (x) p1 == some .eq) = false := by
          rw [ge_d HS.out HP1.out]
          have := log_E (N := z.natAbs) (i := i) (by rw [← HE.out]; exact Nat.le_refl _)
          rw [show ((1074 : Int) + ((i : Int) - 126 + 1)).toNat = 949 + i from by omega]
          unfold tp; rw [decide_eq_false_iff_not]; exact fun h => Nat.lt_irrefl _ (Nat.lt_of_lt_of_le this (Int.ofNat_le.1 h))
        go_wp2_with fail
        refine (power_any _ _ (by omega) (by omega)).mono ?_
        rintro e w1 ⟨p2, d4, rfl, HP2, rfl⟩
        have hp2 : isD p2 (tp (gE z.natAbs)) := by
          have := HP2.out
          rwa [show ((1074 : Int) + ((i : Int) - 126 - 23)).toNat = gE z.natAbs from by unfold gE; rw [← HE.out]; omega] at this
        obtain ⟨U, R, K, RE⟩ := rest_of HZ.out HB.out HS.out hp2
        obtain ⟨cq, gt, eq, hk, hu, hy⟩ := RE
        have HY := Mm.hid hy
        clear hy hp2
        by_cases g1 : 2 ^ 1073 < R
        · obtain rfl : K = U + 1 := by rw [hk, if_pos (.inl g1)]
          clear hk
          go_wp2_with (simp only [cq, gt, g1, decide_true])
          go_ret2
          refine ⟨_, _, _, rfl, Mm.hid (.inl ⟨z, HZ.out, HB.out, ?_, ?_⟩), rfl⟩
          · rw [HN.out]; exact HY.out _
          · exact fsub_d HZ.out (by rw [HN.out]; exact HY.out _) (rep_rest HZ.out.rep) _
        · by_cases g2 : R = 2 ^ 1073
          · rcases Nat.mod_two_eq_zero_or_one U with ho | ho
            · obtain rfl : K = U := by rw [hk, if_neg (by rintro (h | h); exact g1 h; omega)]; rfl
              have hm : ((K : Int).tmod 2 == 1) = false := by rw [show ((K : Int)).tmod 2 = ((K % 2 : Nat) : Int) from rfl, ho]; rfl
              clear hk
              go_wp2_with (simp only [cq, gt, eq, g1, g2, decide_true, decide_false])
              go_ret2
              refine ⟨_, _, _, rfl, Mm.hid (.inl ⟨z, HZ.out, HB.out, ?_, ?_⟩), rfl⟩
              · rw [HN.out]; exact HY.out _
              · exact fsub_d HZ.out (by rw [HN.out]; exact HY.out _) (rep_rest HZ.out.rep) _
            · obtain rfl : K = U + 1 := by rw [hk, if_pos (.inr ⟨g2, ho⟩)]
              have hm : ((U : Int).tmod 2 == 1) = true := by rw [show ((U : Int)).tmod 2 = ((U % 2 : Nat) : Int) from rfl, ho]; rfl
              clear hk
              go_wp2_with (simp only [cq, gt, eq, g1, g2, decide_true, decide_false])
              go_ret2
              refine ⟨_, _, _, rfl, Mm.hid (.inl ⟨z, HZ.out, HB.out, ?_, ?_⟩), rfl⟩
              · rw [HN.out]; exact HY.out _
              · exact fsub_d HZ.out (by rw [HN.out]; exact HY.out _) (rep_rest HZ.out.rep) _
          · obtain rfl : K = U := by rw [hk, if_neg (by rintro (h | h); exact g1 h; exact g2 h.1)]; rfl
            clear hk
            go_wp2_with (simp only [cq, gt, eq, g1, g2, decide_true, decide_false])
            go_ret2
            refine ⟨_, _, _, rfl, Mm.hid (.inl ⟨z, HZ.out, HB.out, ?_, ?_⟩), rfl⟩
            · rw [HN.out]; exact HY.out _
            · exact fsub_d HZ.out (by rw [HN.out]; exact HY.out _) (rep_rest HZ.out.rep) _
      · have z1 : ¬ (i : Int) - 126 < 127 := by omega
        go_wp2_with fail
        refine (power_any _ _ (by omega) (by omega)).mono ?_
        rintro e w1 ⟨p2, d4, rfl, HP2, rfl⟩
        have hp2 : isD p2 (tp (gE z.natAbs)) := by
          have := HP2.out
          rwa [show ((1074 : Int) + ((i : Int) - 126 - 23)).toNat = gE z.natAbs from by unfold gE; rw [← HE.out]; omega] at this
        obtain ⟨U, R, K, RE⟩ := rest_of HZ.out HB.out HS.out hp2
        obtain ⟨cq, gt, eq, hk, hu, hy⟩ := RE
        have HY := Mm.hid hy
        clear hy hp2
        by_cases g1 : 2 ^ 1073 < R
        · obtain rfl : K = U + 1 := by rw [hk, if_pos (.inl g1)]
          clear hk
          go_wp2_with (simp only [cq, gt, g1, decide_true])
          go_ret2
          refine ⟨_, _, _, rfl, Mm.hid (.inl ⟨z, HZ.out, HB.out, ?_, ?_⟩), rfl⟩
          · rw [HN.out]; exact HY.out _
          · exact fsub_d HZ.out (by rw [HN.out]; exact HY.out _) (rep_rest HZ.out.rep) _
        · by_cases g2 : R = 2 ^ 1073
          · rcases Nat.mod_two_eq_zero_or_one U with ho | ho
            · obtain rfl : K = U := by rw [hk, if_neg (by rintro (h | h); exact g1 h; omega)]; rfl
              have hm : ((K : Int).tmod 2 == 1) = false := by rw [show ((K : Int)).tmod 2 = ((K % 2 : Nat) : Int) from rfl, ho]; rfl
              clear hk
              go_wp2_with (simp only [cq, gt, eq, g1, g2, decide_true, decide_false])
              go_ret2
              refine ⟨_, _, _, rfl, Mm.hid (.inl ⟨z, HZ.out, HB.out, ?_, ?_⟩), rfl⟩
              · rw [HN.out]; exact HY.out _
              · exact fsub_d HZ.out (by rw [HN.out]; exact HY.out _) (rep_rest HZ.out.rep) _
            · obtain rfl : K = U + 1 := by rw [hk, if_pos (.inr ⟨g2, ho⟩)]
              have hm : ((U : Int).tmod 2 == 1) = true := by rw [show ((U : Int)).tmod 2 = ((U % 2 : Nat) : Int) from rfl, ho]; rfl
              clear hk
              go_wp2_with (simp only [cq, gt, eq, g1, g2, decide_true, decide_false])
              go_ret2
              refine ⟨_, _, _, rfl, Mm.hid (.inl ⟨z, HZ.out, HB.out, ?_, ?_⟩), rfl⟩
              · rw [HN.out]; exact HY.out _
              · exact fsub_d HZ.out (by rw [HN.out]; exact HY.out _) (rep_rest HZ.out.rep) _
          · obtain rfl : K = U := by rw [hk, if_neg (by rintro (h | h); exact g1 h; exact g2 h.1)]; rfl
            clear hk
            go_wp2_with (simp only [cq, gt, eq, g1, g2, decide_true, decide_false])
            go_ret2
            refine ⟨_, _, _, rfl, Mm.hid (.inl ⟨z, HZ.out, HB.out, ?_, ?_⟩), rfl⟩
            · rw [HN.out]; exact HY.out _
            · exact fsub_d HZ.out (by rw [HN.out]; exact HY.out _) (rep_rest HZ.out.rep) _
set_option maxRecDepth 100000 in
set_option maxHeartbeats 8000000 in
theorem rshort_neg (x : Nat) (z : Int) (w : World) (hz : isD x z) (hb : z.natAbs < BB) (hneg : z < 0) : Calls Try.prog 20 #[.float .f64 x] w (RShortEnds x w) := by
  have h1 : (FloatKind.f64.format.order x 0 == some .lt) = true := by rw [lt_d hz zero_d]; simpa using hneg
  have h2 : (FloatKind.f64.format.order x x != some .eq) = false := by
    have := eq_d hz hz
    simp at this
    simp [this]
  have hs : isD (Op.negFloat .f64 x) (z.natAbs : Int) := by have := neg_d hz; rwa [show -z = (z.natAbs : Int) from by omega] at this
  have hnz : nz z = -((KK z.natAbs : Nat) : Int) := by unfold nz; rw [if_pos hneg]
  have hE := E_le hb
  have HZ := Mm.hid hz
  have HB := Mm.hid hb
  have HS := Mm.hid hs
  have HN := Mm.hid hnz
  clear hz hb hs hnz hneg
  obtain ⟨E, hEE⟩ : ∃ E, E = z.natAbs.log2 - 948 := ⟨_, rfl⟩
  have HE := Mm.hid hEE
  rw [← hEE] at hE
  clear hEE
  go_enter Try.func20, Try.ntmps20
  go_wp2_with fail
  refine (power_any _ _ (by decide) (by decide)).mono ?_
  rintro e w1 ⟨p, d, rfl, HP, rfl⟩
  go_wp2_with fail
  refine (power_any _ _ (by decide) (by decide)).mono ?_
  rintro e w1 ⟨q, d1, rfl, HQ, rfl⟩
  have hlo : ∀ W W', (FloatKind.f64.format.order (Op.negFloat .f64 x) (fres .mul p (fres .sub 4611686018427387904 q W) W') == some .gt || FloatKind.f64.format.order (Op.negFloat .f64 x) (fres .mul p (fres .sub 4611686018427387904 q W) W') == some .eq) = false := fun W W' => by rw [ge_d HS.out (beyond_d HP.out HQ.out W W')]; have := HB.out; simp; omega
  go_wp2_with (simp only [hlo])
  go_loopw [5] (fun e wr => ∃ (i d : Nat), i ≤ E ∧ e = .int .i64 ((i : Nat) - 126) ∧ wr = w.drewN d) (fun e _ => E - (intOf e + 126).toNat)
  case atStart => exact ⟨0, _, Nat.zero_le _, rfl, rfl⟩
  case round =>
    obtain ⟨i, d2, hi, rfl, rfl⟩ := hrel
    clear hlo
    by_cases hiE : i < E
    · have z1 : (i : Int) - 126 < 127 := by omega
      go_wp2_with fail
      refine (power_any _ _ (by omega) (by omega)).mono ?_
      rintro e w1 ⟨p1, d3, rfl, HP1, rfl⟩
      have c1 : (FloatKind.f64.format.order (Op.negFloat .f64 x) p1 == some .gt || FloatKind.f64.format.order (Op.negFloat .f64 x) p1 == some .eq) = true := by
        rw [ge_d HS.out HP1.out]
        have := log_E' (N := z.natAbs) (i := i) (by rw [← HE.out]; exact hiE)
        rw [show ((1074 : Int) + ((i : Int) - 126 + 1)).toNat = 949 + i from by omega]
        unfold tp; rw [decide_eq_true_iff]; exact Int.ofNat_le.2 this
      go_wp2
      go_roundw
      case rel => exact ⟨i + 1, _, hiE, by go_num, rfl⟩
      case measure => simp [intOf]; omega
    · obtain rfl : i = E := by omega
      by_cases hi3 : i < 253
      · have z1 : (i : Int) - 126 < 127 := by omega
        go_wp2_with fail
        refine (power_any _ _ (by omega) (by omega)).mono ?_
        rintro e w1 ⟨p1, d3, rfl, HP1, rfl⟩
        have c1 : (FloatKind.f64.format.order (Op.negFloat .f64 x) p1 == some .gt || FloatKind.f64.format.order (Op.negFloat .f64 x) p1 == some .eq) = false := by
          rw [ge_d HS.out HP1.out]
          have := log_E (N := z.natAbs) (i := i) (by rw [← HE.out]; exact Nat.le_refl _)
          rw [show ((1074 : Int) + ((i : Int) - 126 + 1)).toNat = 949 + i from by omega]
          unfold tp; rw [decide_eq_false_iff_not]; exact fun h => Nat.lt_irrefl _ (Nat.lt_of_lt_of_le this (Int.ofNat_le.1 h))
        go_wp2_with fail
        refine (power_any _ _ (by omega) (by omega)).mono ?_
        rintro e w1 ⟨p2, d4, rfl, HP2, rfl⟩
        have hp2 : isD p2 (tp (gE z.natAbs)) := by
          have := HP2.out
          rwa [show ((1074 : Int) + ((i : Int) - 126 - 23)).toNat = gE z.natAbs from by unfold gE; rw [← HE.out]; omega] at this
        obtain ⟨U, R, K, RE⟩ := rest_of HZ.out HB.out HS.out hp2
        obtain ⟨cq, gt, eq, hk, hu, hy⟩ := RE
        have HY := Mm.hid hy
        clear hy hp2
        by_cases g1 : 2 ^ 1073 < R
        · obtain rfl : K = U + 1 := by rw [hk, if_pos (.inl g1)]
          clear hk
          go_wp2_with (simp only [cq, gt, g1, decide_true])
          go_ret2
          refine ⟨_, _, _, rfl, Mm.hid (.inl ⟨z, HZ.out, HB.out, ?_, ?_⟩), rfl⟩
          · rw [HN.out]; exact neg_d (HY.out _)
          · exact fsub_d HZ.out (by rw [HN.out]; exact neg_d (HY.out _)) (rep_rest HZ.out.rep) _
        · by_cases g2 : R = 2 ^ 1073
          · rcases Nat.mod_two_eq_zero_or_one U with ho | ho
            · obtain rfl : K = U := by rw [hk, if_neg (by rintro (h | h); exact g1 h; omega)]; rfl
              have hm : ((K : Int).tmod 2 == 1) = false := by rw [show ((K : Int)).tmod 2 = ((K % 2 : Nat) : Int) from rfl, ho]; rfl
              clear hk
              go_wp2_with (simp only [cq, gt, eq, g1, g2, decide_true, decide_false])
              go_ret2
              refine ⟨_, _, _, rfl, Mm.hid (.inl ⟨z, HZ.out, HB.out, ?_, ?_⟩), rfl⟩
              · rw [HN.out]; exact neg_d (HY.out _)
              · exact fsub_d HZ.out (by rw [HN.out]; exact neg_d (HY.out _)) (rep_rest HZ.out.rep) _
            · obtain rfl : K = U + 1 := by rw [hk, if_pos (.inr ⟨g2, ho⟩)]
              have hm : ((U : Int).tmod 2 == 1) = true := by rw [show ((U : Int)).tmod 2 = ((U % 2 : Nat) : Int) from rfl, ho]; rfl
              clear hk
              go_wp2_with (simp only [cq, gt, eq, g1, g2, decide_true, decide_false])
              go_ret2
              refine ⟨_, _, _, rfl, Mm.hid (.inl ⟨z, HZ.out, HB.out, ?_, ?_⟩), rfl⟩
              · rw [HN.out]; exact neg_d (HY.out _)
              · exact fsub_d HZ.out (by rw [HN.out]; exact neg_d (HY.out _)) (rep_rest HZ.out.rep) _
          · obtain rfl : K = U := by rw [hk, if_neg (by rintro (h | h); exact g1 h; exact g2 h.1)]; rfl
            clear hk
            go_wp2_with (simp only [cq, gt, eq, g1, g2, decide_true, decide_false])
            go_ret2
            refine ⟨_, _, _, rfl, Mm.hid (.inl ⟨z, HZ.out, HB.out, ?_, ?_⟩), rfl⟩
            · rw [HN.out]; exact neg_d (HY.out _)
            · exact fsub_d HZ.out (by rw [HN.out]; exact neg_d (HY.out _)) (rep_rest HZ.out.rep) _
      · have z1 : ¬ (i : Int) - 126 < 127 := by omega
        go_wp2_with fail
        refine (power_any _ _ (by omega) (by omega)).mono ?_
        rintro e w1 ⟨p2, d4, rfl, HP2, rfl⟩
        have hp2 : isD p2 (tp (gE z.natAbs)) := by
          have := HP2.out
          rwa [show ((1074 : Int) + ((i : Int) - 126 - 23)).toNat = gE z.natAbs from by unfold gE; rw [← HE.out]; omega] at this
        obtain ⟨U, R, K, RE⟩ := rest_of HZ.out HB.out HS.out hp2
        obtain ⟨cq, gt, eq, hk, hu, hy⟩ := RE
        have HY := Mm.hid hy
        clear hy hp2
        by_cases g1 : 2 ^ 1073 < R
        · obtain rfl : K = U + 1 := by rw [hk, if_pos (.inl g1)]
          clear hk
          go_wp2_with (simp only [cq, gt, g1, decide_true])
          go_ret2
          refine ⟨_, _, _, rfl, Mm.hid (.inl ⟨z, HZ.out, HB.out, ?_, ?_⟩), rfl⟩
          · rw [HN.out]; exact neg_d (HY.out _)
          · exact fsub_d HZ.out (by rw [HN.out]; exact neg_d (HY.out _)) (rep_rest HZ.out.rep) _
        · by_cases g2 : R = 2 ^ 1073
          · rcases Nat.mod_two_eq_zero_or_one U with ho | ho
            · obtain rfl : K = U := by rw [hk, if_neg (by rintro (h | h); exact g1 h; omega)]; rfl
              have hm : ((K : Int).tmod 2 == 1) = false := by rw [show ((K : Int)).tmod 2 = ((K % 2 : Nat) : Int) from rfl, ho]; rfl
              clear hk
              go_wp2_with (simp only [cq, gt, eq, g1, g2, decide_true, decide_false])
              go_ret2
              refine ⟨_, _, _, rfl, Mm.hid (.inl ⟨z, HZ.out, HB.out, ?_, ?_⟩), rfl⟩
              · rw [HN.out]; exact neg_d (HY.out _)
              · exact fsub_d HZ.out (by rw [HN.out]; exact neg_d (HY.out _)) (rep_rest HZ.out.rep) _
            · obtain rfl : K = U + 1 := by rw [hk, if_pos (.inr ⟨g2, ho⟩)]
              have hm : ((U : Int).tmod 2 == 1) = true := by rw [show ((U : Int)).tmod 2 = ((U % 2 : Nat) : Int) from rfl, ho]; rfl
              clear hk
              go_wp2_with (simp only [cq, gt, eq, g1, g2, decide_true, decide_false])
              go_ret2
              refine ⟨_, _, _, rfl, Mm.hid (.inl ⟨z, HZ.out, HB.out, ?_, ?_⟩), rfl⟩
              · rw [HN.out]; exact neg_d (HY.out _)
              · exact fsub_d HZ.out (by rw [HN.out]; exact neg_d (HY.out _)) (rep_rest HZ.out.rep) _
          · obtain rfl : K = U := by rw [hk, if_neg (by rintro (h | h); exact g1 h; exact g2 h.1)]; rfl
            clear hk
            go_wp2_with (simp only [cq, gt, eq, g1, g2, decide_true, decide_false])
            go_ret2
            refine ⟨_, _, _, rfl, Mm.hid (.inl ⟨z, HZ.out, HB.out, ?_, ?_⟩), rfl⟩
            · rw [HN.out]; exact neg_d (HY.out _)
            · exact fsub_d HZ.out (by rw [HN.out]; exact neg_d (HY.out _)) (rep_rest HZ.out.rep) _
end Go.Proofs.Ytbhchnfdhdjfnaa

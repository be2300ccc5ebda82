/- Walk: the law MeterAlike; dyadic numbers through the operations. -/
import Derived.Test.YtbhchnfdhdjfnaaMeanLaw
import Derived.Test.YtbhchnfdhdjfnaaPick
import Derived.Deep.DeepMust
namespace Go.Proofs.Ytbhchnfdhdjfnaa
open Go.RowKit Go.Mm
theorem Dy.sm {a b : Nat} {k : Int} {j : Nat} (h : Dy b k j) (hs : Sm a b) : Dy a k j := h.of_canon (by rw [hs]; exact h.canon)
theorem Dy.fadd {x y : Nat} {k l : Int} {j : Nat} (hx : Dy x k j) (hy : Dy y l j) (h : (k + l).natAbs < 9007199254740992) : Dy (fo .add x y) (k + l) j := by
  obtain ⟨r, e, hr⟩ := hx.add hy h; unfold fo; rw [e]; exact hr
theorem Dy.fsub {x y : Nat} {k l : Int} {j : Nat} (hx : Dy x k j) (hy : Dy y l j) (h : (k - l).natAbs < 9007199254740992) : Dy (fo .sub x y) (k - l) j := by
  obtain ⟨r, e, hr⟩ := hx.sub hy h; unfold fo; rw [e]; exact hr
theorem Dy.fmul {x y : Nat} {k l : Int} {i j : Nat} (hx : Dy x k i) (hy : Dy y l j) (hij : i + j ≤ kp) (h : (k * l).natAbs < 9007199254740992) : Dy (fo .mul x y) (k * l) (i + j) := by
  obtain ⟨r, e, hr⟩ := hx.mul hy hij h; unfold fo; rw [e]; exact hr
theorem Dy.fdiv {x y : Nat} {k l m : Int} {i j : Nat} (hx : Dy x m i) (hy : Dy y l j) (hl : l ≠ 0) (hj : j ≤ i) (hm : m = k * l) (h : k.natAbs < 9007199254740992) : Dy (fo .quo x y) k (i - j) := by
  obtain ⟨r, e, hr⟩ := hx.div hy hl hj hm h; unfold fo; rw [e]; exact hr
/-- so many times the same whole number: that is the mean, and nothing is off it -/
theorem alike (m : Int) (k : Nat) (hm : m.natAbs ≤ 1073741824) (hk : 1 ≤ k) (hk' : k ≤ 4096) : Dy (meanOf (List.replicate k (floatOfInt .f64 m))) m 0 ∧ Dy (spreadOf (List.replicate k (floatOfInt .f64 m))) 0 0 := by
  have hv := Dy.ofInt m (by omega)
  have hl : (List.replicate k (floatOfInt .f64 m)).length = k := List.length_replicate ..
  have bound : ∀ j : Nat, j ≤ k → (m * (j : Int)).natAbs ≤ 1073741824 * 4096 := fun j hj => by
    rw [Int.natAbs_mul, Int.natAbs_natCast]; exact Nat.mul_le_mul hm (by omega)
  have hget : ∀ j, j < k → (List.replicate k (floatOfInt .f64 m)).getD j 0 = floatOfInt .f64 m := fun j hj => by
    rw [List.getD_eq_getElem?_getD, List.getElem?_replicate, if_pos hj]; rfl
  have hsum : ∀ j, j ≤ k → Dy (sumTo (List.replicate k (floatOfInt .f64 m)) j) (m * (j : Int)) 0 := by
    intro j
    induction j with
    | zero => intro _; simpa [sumTo] using Dy.zero
    | succ j ih =>
      intro hj
      rw [sumTo_succ _ _ (by omega), hget j (by omega)]
      have e : m * ((j + 1 : Nat) : Int) = m * (j : Int) + m := by rw [Int.natCast_add, Int.mul_add]; simp
      have b := bound (j + 1) hj
      rw [e] at b ⊢
      exact (ih (by omega)).fadd hv (by omega)
  have hn : Dy (floatOfInt .f64 (k : Int)) (k : Int) 0 := Dy.ofInt _ (by omega)
  have hmean : Dy (meanOf (List.replicate k (floatOfInt .f64 m))) m 0 := by
    unfold meanOf
    rw [hl]
    exact (hsum k (Nat.le_refl _)).fdiv hn (by omega) (Nat.le_refl _) rfl (by omega)
  refine ⟨hmean, ?_⟩
  have hoff : ∀ j, j ≤ k → Dy (offTo (List.replicate k (floatOfInt .f64 m)) j) 0 0 := by
    intro j
    induction j with
    | zero => intro _; simpa [offTo] using Dy.zero
    | succ j ih =>
      intro hj
      rw [offTo_succ _ _ (by omega), hget j (by omega)]
      have h0 := hv.fsub hmean (by omega)
      rw [Int.sub_self] at h0
      have h1 := h0.fmul h0 (by rw [kp_eq]; omega) (by simp)
      exact (ih (by omega)).fadd h1 (by simp)
  unfold spreadOf
  rw [hl]
  exact (hoff k (Nat.le_refl _)).fdiv hn (by omega) (Nat.le_refl _) (Int.zero_mul _).symm (by simp)
theorem Dy.eq_true {x y : Nat} {k : Int} {j : Nat} (hx : Dy x k j) (hy : Dy y k j) : (FloatKind.f64.format.order x y == some .eq) = true := by
  have : FloatKind.f64.format.order x y = Ieee.double.order x y := rfl
  rw [this, hx.order hy]
  simp [compare, compareOfLessAndEq]
set_option maxHeartbeats 400000 in
theorem law_alike (x n : Int) (w : World) (hx : (Lit.int .i64 x).wf = true) (hn : (Lit.int .i64 n).wf = true) :
    Calls Try.prog 9 #[.int .i64 x, .int .i64 n] w fun e w' => e = .returned (.bool true) ∧ Below w.heap.size w w' := by
  have bx := wf64 hx
  have bn := wf64 hn
  have e1 := Int.emod_nonneg x (show (2147483648 : Int) ≠ 0 by decide)
  have e2 := Int.emod_lt_of_pos x (show (0 : Int) < 2147483648 by decide)
  have e3 := Int.emod_nonneg n (show (4096 : Int) ≠ 0 by decide)
  have e4 := Int.emod_lt_of_pos n (show (0 : Int) < 4096 by decide)
  clear hx hn
  go_enter Try.func9, Try.ntmps9
  go_wp2_with fail
  refine (pick_any _ _ _ (by omega) (by omega) (by omega) (by omega)).mono ?_
  rintro e w' ⟨rfl, rfl⟩
  go_wp2_with fail
  refine (pick_any _ _ _ (by omega) (by omega) (by omega) (by omega)).mono ?_
  rintro e w' ⟨rfl, rfl⟩
  generalize x % 2147483648 = X at *
  generalize n % 4096 = Z at *
  obtain ⟨z, rfl⟩ := Int.eq_ofNat_of_zero_le e3
  have hz : z < 4096 := by omega
  have EX := Mm.hid (And.intro e1 e2)
  clear bx bn e3 e4
  go_wp2_with fail
  generalize hv0 : floatOfInt FloatKind.f64 (X - 1073741824) = v0
  have V0 := Mm.hid hv0
  clear hv0 e1 e2
  go_loopw [7, 8] (fun l i wr => ∃ k : Nat, k ≤ 1 + z ∧ i = .int .i64 (k : Nat) ∧ Hid (wr.ownsRow w.heap.size 22 1 l k (List.replicate k (.float .f64 v0))) ∧ Hid (Below w.heap.size w wr)) (fun _ i _ => 1 + z - (intOf i).toNat)
  case atStart => exact ⟨0, by omega, rfl, World.ownsRow_nil _ _ _ _, Below.refl _ _⟩
  case round =>
    obtain ⟨k, hk, rfl, HO, HB⟩ := hrel
    by_cases hlt : k < 1 + z
    · go_wp2_with (at_builtin; go_must (refine wp_app1 w.heap.size rfl _ _ 40 22 (.float .f64 0) 1 8 #[.float .f64 v0] rfl Try.underlying40 info22 rfl (by decide) (by decide) _ k _ rfl rfl rfl (by simp; rfl) HO.out HB.out HB.out.size (by omega) ?_))
      intro v1 w1 k1 k2 _ _
      have K1 := Mm.hid k1
      have K2 := Mm.hid k2
      clear k1 k2
      go_wp2
      go_roundw
      case rel => exact ⟨k + 1, by omega, by go_num, by have := K1.out; rwa [List.replicate_succ'], K2.out⟩
      case measure => simp [intOf]; omega
    · obtain rfl : k = 1 + z := by omega
      go_wp2_with fail
      have hv : ∃ A c, u7 = .slice A (1 + z) c := by
        rcases HO.out.2 with ⟨rfl, h⟩ | ⟨g, cap, cur, rfl, _⟩
        · omega
        · exact ⟨_, cap, rfl⟩
      obtain ⟨A', c', rfl⟩ := hv
      have hxs : (List.replicate (1 + z) (Value.float .f64 v0)) = (List.replicate (1 + z) v0).flatMap fF := by
        unfold fF; rw [flatMap_one, List.map_replicate]
      have F1 := rdF_of (xs := List.replicate (1 + z) v0) (by have := Rd.of_own HO.out; rwa [hxs] at this) (by omega)
      refine (mean_any _ _ _ _ _ F1).mono ?_
      rintro e w2 ⟨a, b, m, rfl, rfl, _, h2⟩
      have h3 := h2 (by intro h; simp at h)
      obtain ⟨d1, d2⟩ := alike (X - 1073741824) (1 + z) (by have := EX.out; omega) (by omega) (by omega)
      rw [V0.out] at d1 d2
      have t1 := Dy.eq_true (d1.sm h3.1) (show Dy v0 (X - 1073741824) 0 from V0.out ▸ Dy.ofInt (X - 1073741824) (by have := EX.out; omega))
      have t2 := Dy.eq_true (d2.sm h3.2) Dy.zero
      clear h2 h3 d1 d2 F1 hxs
      go_wp2_with fail
      go_ret
      exact ⟨rfl, HB.out.trans ⟨rfl, rfl, rfl, Nat.le_refl _, fun _ _ => rfl⟩⟩
end Go.Proofs.Ytbhchnfdhdjfnaa

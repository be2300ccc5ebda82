/- Walk: the law MeterFirst. -/
import Derived.Test.YtbhchnfdhdjfnaaNoted
namespace Go.Proofs.Ytbhchnfdhdjfnaa
open Go.RowKit Go.Mm
theorem pos_self {r : Nat} (h : Pos r) : (FloatKind.f64.format.order r r == some .eq) = true := by
  have : FloatKind.f64.format.order r r = Ieee.double.order r r := rfl
  rw [this, order_self, (pos_read h).1.1]; rfl
set_option maxHeartbeats 1000000 in
theorem law_first (half : Int) (A : Option Addr) (n c : Nat) (xs : List Step) (more : Int) (w : World) (hh : (Lit.int .i64 half).wf = true) (h : Sl w 3 24 fS gS A n c xs) (hm : (Lit.int .i64 more).wf = true) :
    Calls Try.prog 14 #[.int .i64 half, .slice A n c, .int .i64 more] w fun e w' => e = .returned (.bool true) ∧ Below w.heap.size w w' := by
  have b1 := wf64 hh
  have b2 := wf64 hm
  have p1 := Int.emod_nonneg half (show (1000 : Int) ≠ 0 by decide)
  have p2 := Int.emod_lt_of_pos half (show (0 : Int) < 1000 by decide)
  have p3 := Int.emod_nonneg more (show (1048576 : Int) ≠ 0 by decide)
  have p4 := Int.emod_lt_of_pos more (show (0 : Int) < 1048576 by decide)
  have H := Mm.hid h
  clear h hh hm
  go_enter Try.func14, Try.ntmps14
  go_wp2_with fail
  refine (pick_any _ _ _ (by omega) (by omega) (by omega) (by omega)).mono ?_
  rintro e w' ⟨rfl, rfl⟩
  generalize half % 1000 = hf at *
  go_wp2_with fail
  refine (noted_any (1 + hf) A n c xs w (by omega) (by omega) H.out).mono ?_
  rintro e w1 ⟨m, rfl, hh, ho, hl, hb, hB⟩
  have O := Mm.hid ho
  have MB1 := Mm.hid hb
  have B1 := Mm.hid hB
  have l0 := ho.2.2.1
  clear hb hB ho hh
  go_wp2_with fail
  refine (pick_any _ _ _ (by omega) (by omega) (by omega) (by omega)).mono ?_
  rintro e w' ⟨rfl, rfl⟩
  generalize more % 1048576 = k at *
  go_wp2_with fail
  refine (rate_any m _ _ _ MB1.out O.out (by omega)).mono ?_
  rintro e w2 ⟨d1, rfl, rfl⟩
  have E1 : m.at_ m.last = (m.rate, 0) := by rw [Meter.at_late (m := m) l0 (Int.le_refl _), Int.sub_self]; rfl
  rw [E1]
  clear E1
  go_wp2_with fail
  refine (note_good m _ m.last k _ (by exact MB1.out) O.out (by omega) (by omega) l0 (Int.le_refl _)).mono ?_
  rintro e w3 ⟨rfl, hb, hf⟩
  have E2 : m.noted m.last k = ⟨m.half, m.last, adf m.rate (floatOfInt .f64 k)⟩ := by unfold Meter.noted; rw [Int.sub_self]; rfl
  rw [E2] at hb
  have MB3 := Mm.hid hb
  have P3 : Hid (Pos (adf m.rate (floatOfInt .f64 k))) := adf_pos O.out.2.2.2.2 (pos_ofInt k p3)
  have O3 : Hid (Meter.ok ⟨m.half, m.last, adf m.rate (floatOfInt .f64 k)⟩) := ⟨O.out.1, O.out.2.1, O.out.2.2.1, O.out.2.2.2.1, P3.out⟩
  have B3 := Mm.hid (B1.out.trans ((Fr.trans (S := (· = w.heap.size)) (Fr.drewN (· = w.heap.size) w1 d1) hf (fun _ _ h => h)).below (B := w.heap.size) (fun g h => Nat.le_of_eq h.symm) B1.out.size))
  have A3 : ∀ W, fres .add m.rate (floatOfInt .f64 k) W = adf m.rate (floatOfInt .f64 k) := fun W => fres_adf O.out.2.2.2.2 (pos_ofInt k p3) W
  have ME : Hid (Meter.at_ ⟨m.half, m.last, adf m.rate (floatOfInt .f64 k)⟩ m.last = (adf m.rate (floatOfInt .f64 k), 0)) := by
    have := Meter.at_late (m := ⟨m.half, m.last, adf m.rate (floatOfInt .f64 k)⟩) l0 (Int.le_refl m.last)
    rw [Int.sub_self] at this
    exact Mm.hid this
  have t1 := pos_self P3.out
  clear hb hf E2 MB1
  go_wp2_with fail
  refine (rate_any _ _ _ _ MB3.out O3.out (by omega)).mono ?_
  rintro e w4 ⟨d2, rfl, rfl⟩
  rw [ME.out]
  by_cases hz : m.last = 0
  · have hz2 : (m.last == 0) = true := by simpa using hz
    have HC : Hid ((Meter.at_ ⟨m.half, m.last, adf m.rate (floatOfInt .f64 k)⟩ (m.last - 1)).2 = 3) := by
      unfold Hid Meter.at_; rw [if_pos (by omega)]
    clear hz
    go_wp2_with fail
    refine (note_bad _ _ _ _ _ (by exact MB3.out) O3.out (by omega) (by omega) (by rw [HC.out]; decide)).mono ?_
    rintro e w5 ⟨rfl, d3, rfl⟩
    rw [HC.out]
    go_wp2_with fail
    refine (rate_any _ _ _ _ (by exact MB3.out) O3.out (by omega)).mono ?_
    rintro e w4 ⟨d4, rfl, rfl⟩
    rw [ME.out]
    go_wp2_with fail
    go_ret
    exact ⟨rfl, B3.out.trans ⟨rfl, rfl, rfl, Nat.le_refl _, fun _ _ => rfl⟩⟩
  · have hz2 : (m.last == 0) = false := by simpa using hz
    have HC : Hid ((Meter.at_ ⟨m.half, m.last, adf m.rate (floatOfInt .f64 k)⟩ (m.last - 1)).2 = 1) := by
      unfold Hid Meter.at_; rw [if_neg (by omega), if_pos (by show m.last - 1 < m.last; omega)]
    clear hz
    go_wp2_with fail
    refine (note_bad _ _ _ _ _ (by exact MB3.out) O3.out (by omega) (by omega) (by rw [HC.out]; decide)).mono ?_
    rintro e w5 ⟨rfl, d3, rfl⟩
    rw [HC.out]
    go_wp2_with fail
    refine (rate_any _ _ _ _ (by exact MB3.out) O3.out (by omega)).mono ?_
    rintro e w4 ⟨d4, rfl, rfl⟩
    rw [ME.out]
    go_wp2_with fail
    go_ret
    exact ⟨rfl, B3.out.trans ⟨rfl, rfl, rfl, Nat.le_refl _, fun _ _ => rfl⟩⟩
end Go.Proofs.Ytbhchnfdhdjfnaa

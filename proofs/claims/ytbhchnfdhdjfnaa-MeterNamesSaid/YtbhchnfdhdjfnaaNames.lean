/- Walk: the law MeterNames. -/
import Derived.Test.YtbhchnfdhdjfnaaMeter
namespace Go.Proofs.Ytbhchnfdhdjfnaa
open Go.RowKit Go.Mm
set_option maxHeartbeats 400000 in
theorem law_names (w : World) : Calls Try.prog 11 #[] w fun e w' => e = .returned (.bool true) ∧ Below w.heap.size w w' := by
  go_enter Try.func11, Try.ntmps11
  go_wp2_with fail
  refine (new_good 10 w (by decide)).mono ?_
  rintro e w1 ⟨rfl, hw⟩
  have HB : Hid (MB w1 w.heap.size ⟨10, 0, 0⟩) := by rw [hw]; exact Blk.new w _ 69
  have B1 : Hid (Below w.heap.size w w1) := by rw [hw]; exact (Below.refl _ w).alloc (Nat.le_refl _) _
  clear hw
  go_wp2_with fail
  refine (note_good ⟨10, 0, 0⟩ w.heap.size 3 8 w1 HB.out ⟨by decide, by decide, by decide, by decide, Nat.zero_le _⟩ (by decide) (by decide) (by decide) (by decide)).mono ?_
  rintro e w2 ⟨rfl, hb, hf⟩
  have e8 : (Meter.noted ⟨10, 0, 0⟩ 3 8) = ⟨10, 3, 4620693217682128896⟩ := congrArg (Meter.mk 10 3) (show adf (hN ((3 : Int) / 10 - 0 / 10).toNat 0) (floatOfInt .f64 8) = 4620693217682128896 by decide +kernel)
  rw [e8] at hb
  have HB2 := Mm.hid hb
  have B2 := Mm.hid (B1.out.trans (hf.below (B := w.heap.size) (fun g h => Nat.le_of_eq h.symm) B1.out.size))
  clear hb hf e8 HB
  go_wp2_with fail
  refine (rate_any ⟨10, 3, 4620693217682128896⟩ w.heap.size 10 w2 HB2.out ⟨by decide, by decide, by decide, by decide, by unfold Pos; decide⟩ (by decide)).mono ?_
  rintro e w3 ⟨n, rfl, rfl⟩
  have e4 : Meter.at_ ⟨10, 3, 4620693217682128896⟩ 10 = (4616189618054758400, 0) := by decide +kernel
  rw [e4]
  have t := Dy.eq_true (x := 4616189618054758400) (y := 4616189618054758400) (Dy.ofInt 4 (by decide)) (Dy.ofInt 4 (by decide))
  go_wp2_with fail
  go_ret
  exact ⟨rfl, B2.out.trans ⟨rfl, rfl, rfl, Nat.le_refl _, fun _ _ => rfl⟩⟩
end Go.Proofs.Ytbhchnfdhdjfnaa

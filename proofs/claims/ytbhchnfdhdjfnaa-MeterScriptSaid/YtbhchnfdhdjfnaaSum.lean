/- Walk: the law MeterSum. -/
import Derived.Test.YtbhchnfdhdjfnaaSumN
namespace Go.Proofs.Ytbhchnfdhdjfnaa
open Go.RowKit Go.Mm
theorem new_good' (half : Int) (w : World) (h : 1 ≤ half) :
    Calls Try.prog 28 #[.int .i64 half] w fun e w' => e = .returned (.tuple #[.pointer (some ⟨w.heap.size, 0, none⟩), .int .i64 0]) ∧ MB w' w.heap.size ⟨half, 0, 0⟩ ∧ Below w.heap.size w w' ∧ w.heap.size < w'.heap.size := by
  refine (new_good half w h).mono ?_
  rintro e w' ⟨rfl, rfl⟩
  exact ⟨rfl, Blk.new w _ 69, (Below.refl _ w).alloc (Nat.le_refl _) _, by simp⟩
theorem MB.keep {w w' : World} {g : Nat} {m : Meter} (h : MB w g m) (hk : w'.heap[g]? = w.heap[g]?) : MB w' g m := Blk.keep h hk
theorem sums_end {h n0 : Int} {k : Nat} {ma mb mc : Meter} (hk : k ≤ 300) (hS : Sums h n0 k ma mb mc) :
    ma.at_ (nowOf h k) = (ma.rate, 0) ∧ mb.at_ (nowOf h k) = (mb.rate, 0) ∧ mc.at_ (nowOf h k) = (mc.rate, 0) ∧
    (∀ W, (FloatKind.f64.format.order mc.rate (fres .add ma.rate mb.rate W) == some .eq) = true) ∧
    (0 < k → 0 ≤ n0 → n0 < 1000 → ∀ W, (FloatKind.f64.format.order mc.rate (fres .quo (floatOfInt .f64 n0) 4697254411347427328 W) == some .gt || FloatKind.f64.format.order mc.rate (fres .quo (floatOfInt .f64 n0) 4697254411347427328 W) == some .eq) = true) := by
  obtain ⟨qa, qb, A, B, C, b1, b2, b3, b4, b5⟩ := hS
  refine ⟨rates_last A, rates_last B, rates_last C, fun W => ?_, fun h0 n1 n2 W => ?_⟩
  · exact Dy.eq_true C.2.2.2 (A.2.2.2.radd B.2.2.2 (by omega) W)
  · have hj := J_le hk
    have kk := kp_eq
    have den : Dy 4697254411347427328 1048576 0 := Dy.ofInt 1048576 (by decide)
    have num := (Dy.ofInt n0 (by omega)).more 20 (by omega)
    have q := (num.rdiv den (by decide) (by omega) (k := n0) (by simp) (by omega) W).cast (j := 20) rfl rfl
    have c := (C.2.2.2.more (20 - J k) (by omega)).cast (j := 20) rfl (by omega)
    have ho : FloatKind.f64.format.order mc.rate (fres .quo (floatOfInt .f64 n0) 4697254411347427328 W) = Ieee.double.order mc.rate (fres .quo (floatOfInt .f64 n0) 4697254411347427328 W) := rfl
    rw [ho, c.order q]
    have hp := Nat.two_pow_pos (20 - J k)
    have hge : n0 ≤ (qa + qb) * ((2 ^ (20 - J k) : Nat) : Int) := by
      have h1 := b5 h0
      have h2 : (qa + qb) * 1 ≤ (qa + qb) * ((2 ^ (20 - J k) : Nat) : Int) := Int.mul_le_mul_of_nonneg_left (by omega) (by omega)
      omega
    generalize (qa + qb) * ((2 ^ (20 - J k) : Nat) : Int) = z at *
    rcases Int.lt_or_eq_of_le hge with h1 | h1
    · simp only [compare, compareOfLessAndEq, if_neg (show ¬ z < n0 by omega), if_neg (show ¬ z = n0 by omega)]; rfl
    · simp [compare, compareOfLessAndEq, h1]
set_option maxRecDepth 100000 in
set_option maxHeartbeats 8000000 in
theorem law_sum (half : Int) (A1 : Option Addr) (n1 c1 : Nat) (xs1 : List Int) (A2 : Option Addr) (n2 c2 : Nat) (xs2 : List Int) (w : World) (hh : (Lit.int .i64 half).wf = true) (h1 : Sl w 1 8 fI gI A1 n1 c1 xs1) (h2 : Sl w 1 8 fI gI A2 n2 c2 xs2) :
    Calls Try.prog 15 #[.int .i64 half, .slice A1 n1 c1, .slice A2 n2 c2] w fun e w' => e = .returned (.bool true) ∧ Below w.heap.size w w' := by
  have b1 := wf64 hh
  have p1 := Int.emod_nonneg half (show (1000 : Int) ≠ 0 by decide)
  have p2 := Int.emod_lt_of_pos half (show (0 : Int) < 1000 by decide)
  have hn1 : n1 ≤ 17592186043904 := by have := h1.room; omega
  have hn2 : n2 ≤ 17592186043904 := by have := h2.room; omega
  have R1 := Mm.hid (rdI_of h1.rd)
  have R2 := Mm.hid (rdI_of h2.rd)
  have G1 := Mm.hid h1.good
  have G2 := Mm.hid h2.good
  clear h1 h2 hh
  go_enter Try.func15, Try.ntmps15
  go_wp2_with fail
  refine (pick_any _ _ _ (by omega) (by omega) (by omega) (by omega)).mono ?_
  rintro e w' ⟨rfl, rfl⟩
  generalize half % 1000 = hf at *
  go_wp2_with fail
  have hh1 : 1 ≤ 1 + hf := by omega
  have hh2 : 1 + hf ≤ 1000 := by omega
  generalize 1 + hf = hv at *
  refine (new_good' hv _ hh1).mono ?_
  rintro e w1 ⟨rfl, hm1, hB1, hs1⟩
  have B1 := Mm.hid hB1
  have M1 := Mm.hid hm1
  have S1 := Mm.hid hs1
  clear hB1 hm1 hs1
  go_wp2_with fail
  refine (new_good' hv _ hh1).mono ?_
  rintro e w2 ⟨rfl, hm2, hB2, hs2⟩
  have B2 := Mm.hid (B1.out.trans (hB2.mono B1.out.size))
  have M2 := Mm.hid (And.intro (M1.out.keep (hB2.block _ S1.out)) hm2)
  have S2 := Mm.hid (And.intro S1.out hs2)
  clear hB2 hm2 hs2 B1 M1 S1
  go_wp2_with fail
  refine (new_good' hv _ hh1).mono ?_
  rintro e w3 ⟨rfl, hm3, hB3, hs3⟩
  have B3 := Mm.hid (B2.out.trans (hB3.mono B2.out.size))
  have M3 := Mm.hid (And.intro (M2.out.1.keep (hB3.block _ (Nat.lt_trans S2.out.1 S2.out.2))) (And.intro (M2.out.2.keep (hB3.block _ S2.out.2)) hm3))
  have S3 := Mm.hid (And.intro S2.out.1 S2.out.2)
  clear hB3 hm3 hs3 B2 M2 S2
  generalize hg1 : w.heap.size = g1 at *
  generalize hg2 : w1.heap.size = g2 at *
  generalize hg3 : w2.heap.size = g3 at *
  have HG := Mm.hid hg1
  clear hg1 hg2 hg3
  go_wp2_with fail
  go_loopw [14, 15, 16, 17, 18, 19, 20] (fun now i y1 y2 y3 y4 y5 wr => ∃ (k : Nat) (ma mb mc : Meter), k ≤ n1 ∧ k ≤ n2 ∧ k ≤ 300 ∧ i = .int .i64 (k : Nat) ∧ now = .int .i64 (nowOf hv k) ∧ Hid (Sums hv (xs1.getD 0 0 % 1000) k ma mb mc) ∧ Hid (MB wr g1 ma ∧ MB wr g2 mb ∧ MB wr g3 mc) ∧ Hid (Below g1 w wr)) (fun _ i _ _ _ _ _ _ => 300 - (intOf i).toNat)
  case atStart =>
    refine ⟨0, ⟨hv, 0, 0⟩, ⟨hv, 0, 0⟩, ⟨hv, 0, 0⟩, Nat.zero_le _, Nat.zero_le _, by omega, rfl, rfl, ?_, M3.out, B3⟩
    have a0 : At hv 0 ⟨hv, 0, 0⟩ 0 := ⟨rfl, ⟨hh1, by show hv ≤ _; omega, Int.le_refl 0, by show (0 : Int) ≤ _; decide, Nat.zero_le _⟩, rfl, Dy.zero⟩
    exact ⟨0, 0, a0, a0, a0, by omega, by simp, by omega, by simp, fun h => absurd h (by omega)⟩
  case round =>
    obtain ⟨k, ma, mb, mc, hk1, hk2, hk3, rfl, rfl, HS, HM, HB⟩ := hrel
    have nr := nowOf_range hv k hh1 hh2 hk3
    by_cases hgo : k < n1 ∧ k < n2 ∧ k < 300
    · obtain ⟨l1, l2, l3⟩ := hgo
      have hle : w.heap.size ≤ g1 := Nat.le_of_eq HG.out
      have hbw : Below w.heap.size w wr := HB.out.mono hle
      obtain ⟨ad1, hA1, hl1, hc1⟩ := (R1.out.below hbw).2 (by omega)
      obtain ⟨ad2, hA2, hl2, hc2⟩ := (R2.out.below hbw).2 (by omega)
      subst hA1 hA2
      have e1 := hc1 k l1
      have e2 := hc2 k l2
      have x1 : gI (xs1.getD k 0) := G1.out _ (by
        have := R1.out.1
        rw [List.getD_eq_getElem?_getD, List.getElem?_eq_getElem (by omega)]; exact List.getElem_mem _)
      have x2 : gI (xs2.getD k 0) := G2.out _ (by
        have := R2.out.1
        rw [List.getD_eq_getElem?_getD, List.getElem?_eq_getElem (by omega)]; exact List.getElem_mem _)
      have y1 := wf64 x1
      have y2 := wf64 x2
      have z0 : Hid (k = 0 → xs1.getD k 0 % 1000 = xs1.getD 0 0 % 1000) := by intro h; rw [h]
      have m1 : 0 ≤ (k : Int) * hv := Int.mul_nonneg (by omega) (by omega)
      have m2 : (k : Int) * hv ≤ 300 * 1000 := Int.mul_le_mul (by omega) hh2 (by omega) (by omega)
      have E : Hid ((k : Int) * hv / 15 = nowOf hv (k + 1)) := by unfold Hid nowOf; rw [if_neg (by omega)]; rfl
      generalize hq : xs1.getD 0 0 % 1000 = n0 at *
      have HQ := Mm.hid hq
      generalize xs1.getD k 0 = va at *
      generalize xs2.getD k 0 = vb at *
      have q1 := Int.emod_nonneg va (show (1000 : Int) ≠ 0 by decide)
      have q2 := Int.emod_lt_of_pos va (show (0 : Int) < 1000 by decide)
      have q3 := Int.emod_nonneg vb (show (1000 : Int) ≠ 0 by decide)
      have q4 := Int.emod_lt_of_pos vb (show (0 : Int) < 1000 by decide)
      clear hc1 hc2 hl1 hl2 x1 x2 hbw hle hq nr
      go_wp2_with fail
      refine (pick_any _ _ _ (by omega) (by omega) (by omega) (by omega)).mono ?_
      rintro e w' ⟨rfl, rfl⟩
      rw [E.out]
      have nr := nowOf_range hv (k + 1) hh1 hh2 (by omega)
      have nm := nowOf_mono hv k hh1
      have lastA : Hid (ma.last = nowOf hv k ∧ mb.last = nowOf hv k ∧ mc.last = nowOf hv k ∧ ma.ok ∧ mb.ok ∧ mc.ok) := by
        obtain ⟨qa, qb, a, b, c, _⟩ := HS.out
        exact ⟨a.2.2.1, b.2.2.1, c.2.2.1, a.2.1, b.2.1, c.2.1⟩
      generalize hnow : nowOf hv (k + 1) = nw at *
      have NW := Mm.hid hnow
      clear hnow m1 m2 E
      go_wp2_with fail
      refine (pick_any _ _ _ (by omega) (by omega) (by omega) (by omega)).mono ?_
      rintro e w' ⟨rfl, rfl⟩
      generalize va % 1000 = pa at *
      generalize vb % 1000 = pb at *
      go_wp2_with fail
      refine (note_good ma g1 nw pa _ HM.out.1 lastA.out.2.2.2.1 (by omega) (by omega) nr.1 (by rw [lastA.out.1]; exact nm)).mono ?_
      rintro e w4 ⟨rfl, hb, hf⟩
      have gs := S3.out
      have HM4 := Mm.hid (And.intro hb (And.intro (HM.out.2.1.keep (hf.block _ HM.out.2.1.lt (by omega))) (HM.out.2.2.keep (hf.block _ HM.out.2.2.lt (by omega)))))
      have HB4 := Mm.hid (HB.out.trans (hf.below (B := g1) (fun g h => Nat.le_of_eq h.symm) (Nat.le_of_lt HM.out.1.lt)))
      clear hb hf HM HB
      go_wp2_with fail
      refine (note_good mb g2 nw pb _ HM4.out.2.1 lastA.out.2.2.2.2.1 (by omega) (by omega) nr.1 (by rw [lastA.out.2.1]; exact nm)).mono ?_
      rintro e w5 ⟨rfl, hb, hf⟩
      have HM5 := Mm.hid (And.intro (HM4.out.1.keep (hf.block _ HM4.out.1.lt (by omega))) (And.intro hb (HM4.out.2.2.keep (hf.block _ HM4.out.2.2.lt (by omega)))))
      have HB5 := Mm.hid (HB4.out.trans (hf.below (B := g1) (fun g h => by omega) (Nat.le_of_lt HM4.out.1.lt)))
      clear hb hf HM4 HB4
      go_wp2_with fail
      refine (note_good mc g3 nw (pa + pb) _ HM5.out.2.2 lastA.out.2.2.2.2.2 (by omega) (by omega) nr.1 (by rw [lastA.out.2.2.1]; exact nm)).mono ?_
      rintro e w6 ⟨rfl, hb, hf⟩
      have HM6 := Mm.hid (And.intro (HM5.out.1.keep (hf.block _ HM5.out.1.lt (by omega))) (And.intro (HM5.out.2.1.keep (hf.block _ HM5.out.2.1.lt (by omega))) hb))
      have HB6 := Mm.hid (HB5.out.trans (hf.below (B := g1) (fun g h => by omega) (Nat.le_of_lt HM5.out.1.lt)))
      have HS6 : Hid (Sums hv n0 (k + 1) (ma.noted nw pa) (mb.noted nw pb) (mc.noted nw (pa + pb))) := by
        rw [← NW.out]; exact HS.out.step hh1 hh2 l3 ⟨q1, q2⟩ ⟨q3, q4⟩ z0.out
      clear hb hf HM5 HB5 gs
      go_wp2
      go_roundw
      case rel => exact ⟨k + 1, _, _, _, by omega, by omega, by omega, by go_num, by rw [NW.out], HS6, HM6, HB6⟩
      case measure => simp [intOf]; omega
    · have hbw : Below w.heap.size w wr := HB.out.mono (Nat.le_of_eq HG.out)
      obtain ⟨f1, f2, f3, t1, t2⟩ := sums_end hk3 HS.out
      have lastA : Hid (ma.ok ∧ mb.ok ∧ mc.ok) := by
        obtain ⟨qa, qb, a, b, c, _⟩ := HS.out
        exact ⟨a.2.1, b.2.1, c.2.1⟩
      have F := Mm.hid (And.intro f1 (And.intro f2 f3))
      have T2 := Mm.hid t2
      generalize hnow : nowOf hv k = nw at *
      clear f1 f2 f3 t2 hnow
      have fin : ∀ X : World, (X.heap = wr.heap ∧ X.os = wr.os ∧ X.tape = wr.tape ∧ X.output = wr.output) → Below w.heap.size w X := fun X hX => hbw.trans ⟨hX.2.1, hX.2.2.1, hX.2.2.2, by rw [hX.1]; exact Nat.le_refl _, fun _ _ => by rw [hX.1]⟩
      have FIN := Mm.hid fin
      clear fin
      by_cases z1 : n1 = 0
      · have z1' : ((n1 : Int) == 0) = true := by simp [z1]
        have l1 : ¬ k < n1 := by omega
        clear hgo z1
        go_wp2_with fail
        refine (rate_any ma g1 nw _ HM.out.1 lastA.out.1 (by omega)).mono ?_
        rintro e w4 ⟨d1, rfl, rfl⟩
        rw [F.out.1]
        go_wp2_with fail
        refine (rate_any mb g2 nw _ (by exact HM.out.2.1) lastA.out.2.1 (by omega)).mono ?_
        rintro e w4 ⟨d2, rfl, rfl⟩
        rw [F.out.2.1]
        go_wp2_with fail
        refine (rate_any mc g3 nw _ (by exact HM.out.2.2) lastA.out.2.2 (by omega)).mono ?_
        rintro e w4 ⟨d3, rfl, rfl⟩
        rw [F.out.2.2]
        go_wp2_with fail
        go_ret
        exact ⟨rfl, FIN.out _ ⟨rfl, rfl, rfl, rfl⟩⟩
      · by_cases z2 : n2 = 0
        · have z2' : ((n2 : Int) == 0) = true := by simp [z2]
          have z1' : ((n1 : Int) == 0) = false := by simp; omega
          have l1 : ¬ k < n2 := by omega
          have l0 : k < n1 := by omega
          clear hgo z1 z2
          go_wp2_with fail
          refine (rate_any ma g1 nw _ HM.out.1 lastA.out.1 (by omega)).mono ?_
          rintro e w4 ⟨d1, rfl, rfl⟩
          rw [F.out.1]
          go_wp2_with fail
          refine (rate_any mb g2 nw _ (by exact HM.out.2.1) lastA.out.2.1 (by omega)).mono ?_
          rintro e w4 ⟨d2, rfl, rfl⟩
          rw [F.out.2.1]
          go_wp2_with fail
          refine (rate_any mc g3 nw _ (by exact HM.out.2.2) lastA.out.2.2 (by omega)).mono ?_
          rintro e w4 ⟨d3, rfl, rfl⟩
          rw [F.out.2.2]
          go_wp2_with fail
          go_ret
          exact ⟨rfl, FIN.out _ ⟨rfl, rfl, rfl, rfl⟩⟩
        · have z2' : ((n2 : Int) == 0) = false := by simp; omega
          have z1' : ((n1 : Int) == 0) = false := by simp; omega
          have hk0 : 0 < k := by omega
          have t2 := T2.out hk0 (Int.emod_nonneg _ (by decide)) (Int.emod_lt_of_pos _ (by decide))
          obtain ⟨ad1, hA1, hl1, hc1⟩ := (R1.out.below hbw).2 (by omega)
          subst hA1
          have e1 := hc1 0 (by omega)
          have e2 : wr.cell? ad1 = some (.int .i64 (xs1.getD 0 0)) := by rw [← e1]; rfl
          have x1 : gI (xs1.getD 0 0) := G1.out _ (by
            have := R1.out.1
            rw [List.getD_eq_getElem?_getD, List.getElem?_eq_getElem (by omega)]; exact List.getElem_mem _)
          have y1 := wf64 x1
          generalize hva : xs1.getD 0 0 = va at *
          have VA := Mm.hid hva
          have hpos : (0 : Int) < n1 := by omega
          clear hc1 hl1 x1 hva z1 z2 T2
          have key : (k < n1 ∧ k < n2 ∧ ¬ k < 300) ∨ (k < n1 ∧ ¬ k < n2) ∨ ¬ k < n1 := by omega
          rcases key with ⟨u1, u2, u3⟩ | ⟨u1, u2⟩ | u1
          all_goals
            clear hgo
            go_wp2_with fail
            refine (rate_any ma g1 nw _ HM.out.1 lastA.out.1 (by omega)).mono ?_
            rintro e w4 ⟨d1, rfl, rfl⟩
            rw [F.out.1]
            go_wp2_with fail
            refine (rate_any mb g2 nw _ (by exact HM.out.2.1) lastA.out.2.1 (by omega)).mono ?_
            rintro e w4 ⟨d2, rfl, rfl⟩
            rw [F.out.2.1]
            go_wp2_with fail
            refine (rate_any mc g3 nw _ (by exact HM.out.2.2) lastA.out.2.2 (by omega)).mono ?_
            rintro e w4 ⟨d3, rfl, rfl⟩
            rw [F.out.2.2]
            go_wp2_with fail
            refine (pick_any _ _ _ (by omega) (by omega) (by omega) (by omega)).mono ?_
            rintro e w' ⟨rfl, rfl⟩
            go_wp2_with fail
            go_ret
            exact ⟨rfl, FIN.out _ ⟨rfl, rfl, rfl, rfl⟩⟩
end Go.Proofs.Ytbhchnfdhdjfnaa

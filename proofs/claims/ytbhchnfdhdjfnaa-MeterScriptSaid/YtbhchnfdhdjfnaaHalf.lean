/- Walk: the law MeterHalf. -/
import Derived.Test.YtbhchnfdhdjfnaaHalfN
import Derived.Test.YtbhchnfdhdjfnaaFirst
import Derived.Test.YtbhchnfdhdjfnaaTwo
namespace Go.Proofs.Ytbhchnfdhdjfnaa
open Go.RowKit Go.Mm
theorem period_of {t h : Int} (hh : 1 ≤ h) : t / h * h / h = t / h := Int.mul_ediv_cancel _ (by omega)
theorem period_le {t h : Int} (hh : 1 ≤ h) (ht : 0 ≤ t) : 0 ≤ t / h * h ∧ t / h * h ≤ t := by
  refine ⟨Int.mul_nonneg (Int.ediv_nonneg ht (by omega)) (by omega), ?_⟩
  have := Int.emod_nonneg t (show h ≠ 0 by omega)
  have e := Int.mul_ediv_add_emod t h
  rw [Int.mul_comm] at e
  omega
theorem period_up {t h : Int} (hh : 1 ≤ h) : (t + h) / h = t / h + 1 := by
  rw [Int.add_ediv_of_dvd_right (Int.dvd_refl h), Int.ediv_self (by omega)]
theorem pos_ne {r : Nat} (h : Pos r) : (FloatKind.f64.format.order r 0 != some .eq) = decide (r ≠ 0) := by
  have ho : FloatKind.f64.format.order r 0 = Ieee.double.order r 0 := rfl
  have hg := pos_gt h
  rw [ho] at hg ⊢
  by_cases h0 : r = 0
  · subst h0; decide
  · simp only [h0, ne_eq, not_false_eq_true, decide_true] at hg ⊢
    have : Ieee.double.order r 0 = some .gt := by simpa using hg
    rw [this]; rfl
theorem tiny_step {tv k : Nat} (h : Dy tv 1 k) (hk : k < 1021) (W : World) : Dy (fres .quo tv 4611686018427387904 W) 1 (k + 1) := by
  have two : Dy 4611686018427387904 2 0 := Dy.ofInt 2 (by decide)
  exact ((h.more 1 (by rw [kp_eq]; omega)).rdiv two (by decide) (by omega) (by simp) (by decide) W).cast rfl rfl
set_option maxRecDepth 100000 in
set_option maxHeartbeats 4000000 in
theorem law_half (half : Int) (A : Option Addr) (n c : Nat) (xs : List Step) (later : Int) (w : World) (hh : (Lit.int .i64 half).wf = true) (h : Sl w 3 24 fS gS A n c xs) (hm : (Lit.int .i64 later).wf = true) :
    Calls Try.prog 13 #[.int .i64 half, .slice A n c, .int .i64 later] w fun e w' => e = .returned (.bool true) ∧ Below w.heap.size w w' := by
  have b1 := wf64 hh
  have b2 := wf64 hm
  have p1 := Int.emod_nonneg half (show (1000 : Int) ≠ 0 by decide)
  have p2 := Int.emod_lt_of_pos half (show (0 : Int) < 1000 by decide)
  have p3 := Int.emod_nonneg later (show (100000 : Int) ≠ 0 by decide)
  have p4 := Int.emod_lt_of_pos later (show (0 : Int) < 100000 by decide)
  have H := Mm.hid h
  clear h hh hm
  go_enter Try.func13, Try.ntmps13
  go_wp2_with fail
  refine (pick_any _ _ _ (by omega) (by omega) (by omega) (by omega)).mono ?_
  rintro e w' ⟨rfl, rfl⟩
  generalize half % 1000 = hf at *
  go_wp2_with fail
  have hh1 : 1 ≤ 1 + hf := by omega
  have hh2 : 1 + hf ≤ 1000 := by omega
  generalize 1 + hf = hv at *
  refine (noted_any _ A n c xs w (by omega) (by omega) H.out).mono ?_
  rintro e w1 ⟨m, rfl, hh, ho, hl, hb, hB⟩
  have O := Mm.hid ho
  have MB1 := Mm.hid hb
  have B1 := Mm.hid hB
  have l0 := ho.2.2.1
  have MH := Mm.hid hh
  clear hb hB ho hh
  go_wp2_with fail
  refine (pick_any _ _ _ (by omega) (by omega) (by omega) (by omega)).mono ?_
  rintro e w' ⟨rfl, rfl⟩
  generalize later % 100000 = dl at *
  go_wp2_with fail
  have t0 : 0 ≤ m.last + dl := by omega
  have t1 : m.last ≤ m.last + dl := by omega
  have t2 : m.last + dl ≤ 5860000000100000 := by omega
  generalize m.last + dl = t at *
  have pl := period_le hh1 t0
  have qr := quo_range hh1 t0
  have E1 : Hid (m.at_ t = (hN (t / hv - m.last / hv).toNat m.rate, 0)) := by have := Meter.at_late t0 t1; rw [MH.out] at this; exact Mm.hid this
  have E2 : Hid (m.at_ (t + hv) = (h1 (hN (t / hv - m.last / hv).toNat m.rate), 0)) := by
    have := Meter.at_late (m := m) (now := t + hv) (by omega) (by omega)
    have q := quo_le hh1 t1
    rw [MH.out, period_up hh1, show (t / hv + 1 - m.last / hv).toNat = (t / hv - m.last / hv).toNat + 1 from by omega, hN_last] at this
    exact Mm.hid this
  have E3 : Hid (m.last ≤ t / hv * hv → m.at_ (t / hv * hv) = (hN (t / hv - m.last / hv).toNat m.rate, 0)) := by
    intro h
    have := Meter.at_late (m := m) pl.1 h
    rwa [MH.out, period_of hh1] at this
  have E4 : Hid (¬ m.last ≤ t / hv * hv → m.at_ (t / hv * hv) = (0, 1)) := fun h => Meter.at_early pl.1 (by omega)
  have hp : Pos (hN (t / hv - m.last / hv).toNat m.rate) := hN_pos O.out.2.2.2.2 _
  generalize hN (t / hv - m.last / hv).toNat m.rate = a at *
  have hself := pos_self hp
  have hself2 : (FloatKind.f64.format.order a a != some .eq) = false := by have := hself; simp at this; simp [this]
  have hne := pos_ne hp
  have HP := Mm.hid hp
  have HNE := Mm.hid hne
  clear hp hne
  refine (rate_any m _ _ _ MB1.out O.out (by omega)).mono ?_
  rintro e w2 ⟨d1, rfl, rfl⟩
  rw [E1.out]
  go_wp2_with fail
  refine (rate_any m _ _ _ (by exact MB1.out) O.out (by omega)).mono ?_
  rintro e w2 ⟨d2, rfl, rfl⟩
  rw [E2.out]
  have hz : (hv == 0) = false := by simp; omega
  go_wp2_with fail
  by_cases hu : m.last ≤ t / hv * hv
  · have E5 := Mm.hid (E3.out hu)
    clear E3 E4
    refine (rate_any m _ _ _ (by exact MB1.out) O.out (by omega)).mono ?_
    rintro e w2 ⟨d3, rfl, rfl⟩
    rw [E5.out]
    go_wp2_with fail
    refine (rate_any m _ _ _ (by exact MB1.out) O.out (by omega)).mono ?_
    rintro e w2 ⟨d4, rfl, rfl⟩
    rw [E1.out]
    go_wp2_with fail
    generalize d1 + d2 + d3 + d4 = dd at *
    go_loopw [20, 21] (fun x i wr => ∃ k tv mm, k ≤ 1021 ∧ i = .int .i64 ((k : Nat) : Int) ∧ x = .float .f64 tv ∧ Hid (Dy tv 1 k) ∧ wr = w1.drewN mm) (fun _ i _ => 1021 - (intOf i).toNat)
    case atStart => exact ⟨0, _, dd, by omega, rfl, rfl, one_bits, rfl⟩
    case round =>
      obtain ⟨k, tv, mm, hk, rfl, rfl, hT, rfl⟩ := hrel
      by_cases hlt : k < 1021
      · go_wp2
        go_roundw
        case rel => exact ⟨k + 1, _, _, by omega, by go_num, rfl, tiny_step hT.out (by omega) _, rfl⟩
        case measure => simp [intOf]; omega
      · obtain rfl : k = 1021 := by omega
        rcases half_law HP.out hT.out with ⟨hn0, hl2⟩ | hl2
        · have hq0 : (FloatKind.f64.format.order a 0 != some .eq) = true := by rw [HNE.out]; simp [hn0]
          clear hn0
          go_wp2
          go_ret
          exact ⟨rfl, B1.out.trans ⟨rfl, rfl, rfl, Nat.le_refl _, fun _ _ => rfl⟩⟩
        · cases hq0 : (FloatKind.f64.format.order a 0 != some .eq) with
          | false =>
            go_wp2
            go_ret
            exact ⟨rfl, B1.out.trans ⟨rfl, rfl, rfl, Nat.le_refl _, fun _ _ => rfl⟩⟩
          | true =>
            cases hq1 : (FloatKind.f64.format.order a tv == some .lt) with
            | false =>
              go_wp2
              go_ret
              exact ⟨rfl, B1.out.trans ⟨rfl, rfl, rfl, Nat.le_refl _, fun _ _ => rfl⟩⟩
            | true =>
              go_wp2
              go_ret
              exact ⟨rfl, B1.out.trans ⟨rfl, rfl, rfl, Nat.le_refl _, fun _ _ => rfl⟩⟩
  · have E5 := Mm.hid (E4.out (by omega))
    clear E3 E4
    refine (rate_any m _ _ _ (by exact MB1.out) O.out (by omega)).mono ?_
    rintro e w2 ⟨d3, rfl, rfl⟩
    rw [E5.out]
    go_wp2_with fail
    refine (rate_any m _ _ _ (by exact MB1.out) O.out (by omega)).mono ?_
    rintro e w2 ⟨d4, rfl, rfl⟩
    rw [E1.out]
    go_wp2_with fail
    generalize d1 + d2 + d3 + d4 = dd at *
    go_loopw [20, 21] (fun x i wr => ∃ k tv mm, k ≤ 1021 ∧ i = .int .i64 ((k : Nat) : Int) ∧ x = .float .f64 tv ∧ Hid (Dy tv 1 k) ∧ wr = w1.drewN mm) (fun _ i _ => 1021 - (intOf i).toNat)
    case atStart => exact ⟨0, _, dd, by omega, rfl, rfl, one_bits, rfl⟩
    case round =>
      obtain ⟨k, tv, mm, hk, rfl, rfl, hT, rfl⟩ := hrel
      by_cases hlt : k < 1021
      · go_wp2
        go_roundw
        case rel => exact ⟨k + 1, _, _, by omega, by go_num, rfl, tiny_step hT.out (by omega) _, rfl⟩
        case measure => simp [intOf]; omega
      · obtain rfl : k = 1021 := by omega
        rcases half_law HP.out hT.out with ⟨hn0, hl2⟩ | hl2
        · have hq0 : (FloatKind.f64.format.order a 0 != some .eq) = true := by rw [HNE.out]; simp [hn0]
          clear hn0
          go_wp2
          go_ret
          exact ⟨rfl, B1.out.trans ⟨rfl, rfl, rfl, Nat.le_refl _, fun _ _ => rfl⟩⟩
        · cases hq0 : (FloatKind.f64.format.order a 0 != some .eq) with
          | false =>
            go_wp2
            go_ret
            exact ⟨rfl, B1.out.trans ⟨rfl, rfl, rfl, Nat.le_refl _, fun _ _ => rfl⟩⟩
          | true =>
            cases hq1 : (FloatKind.f64.format.order a tv == some .lt) with
            | false =>
              go_wp2
              go_ret
              exact ⟨rfl, B1.out.trans ⟨rfl, rfl, rfl, Nat.le_refl _, fun _ _ => rfl⟩⟩
            | true =>
              go_wp2
              go_ret
              exact ⟨rfl, B1.out.trans ⟨rfl, rfl, rfl, Nat.le_refl _, fun _ _ => rfl⟩⟩
end Go.Proofs.Ytbhchnfdhdjfnaa

/- Walk: the document's Compass, and the law MeterCompass. -/
import Derived.Test.YtbhchnfdhdjfnaaCompass
namespace Go.Proofs.Ytbhchnfdhdjfnaa
open Go.RowKit Go.Mm
theorem turn_cases (mm : Int) : (mm.tmod 4 = 0 ∧ reOf mm = 1 ∧ imOf mm = 0) ∨ (mm.tmod 4 = 1 ∧ reOf mm = 0 ∧ imOf mm = 1) ∨ (mm.tmod 4 = 2 ∧ reOf mm = -1 ∧ imOf mm = 0) ∨ (mm.tmod 4 = 3 ∧ reOf mm = 0 ∧ imOf mm = -1)
        ∨ (mm.tmod 4 = -3 ∧ reOf mm = 0 ∧ imOf mm = 1) ∨ (mm.tmod 4 = -2 ∧ reOf mm = -1 ∧ imOf mm = 0) ∨ (mm.tmod 4 = -1 ∧ reOf mm = 0 ∧ imOf mm = -1) := by
  have e := @Int.tmod_eq_emod mm 4
  have hx : (mm % 4 = 0 ∧ reOf mm = 1 ∧ imOf mm = 0) ∨ (mm % 4 = 1 ∧ reOf mm = 0 ∧ imOf mm = 1) ∨ (mm % 4 = 2 ∧ reOf mm = -1 ∧ imOf mm = 0) ∨ (mm % 4 = 3 ∧ reOf mm = 0 ∧ imOf mm = -1) := by
    unfold reOf imOf; repeat (first | omega | split)
  have e2 : (0 ≤ mm ∨ mm % 4 = 0) ∧ mm.tmod 4 = mm % 4 ∨ mm % 4 ≠ 0 ∧ mm.tmod 4 = mm % 4 - 4 := by
    by_cases hd : 0 ≤ mm ∨ (4 : Int) ∣ mm
    · rw [if_pos hd] at e; omega
    · rw [if_neg hd] at e; omega
  clear e
  rcases hx with ⟨h, p, q⟩ | ⟨h, p, q⟩ | ⟨h, p, q⟩ | ⟨h, p, q⟩ <;> rcases e2 with ⟨_, e3⟩ | ⟨e0, e3⟩ <;> rw [h] at e3 <;> first | (exact absurd h e0) | (rw [e3, p, q]; decide)
def Parts (xs : List Int) (w : World) (e : Ending) (w' : World) : Prop :=
  ∃ a b, e = .returned (.tuple #[.float .f64 a, .float .f64 b]) ∧ w = w' ∧ Dy a (reTo xs xs.length) 0 ∧ Dy b (imTo xs xs.length) 0
set_option maxHeartbeats 1000000 in
theorem rcompass_any (A : Option Addr) (n c : Nat) (xs : List Int) (w : World) (h : RdI w A n xs) (hn : n ≤ 1125899906842624) :
    Calls Try.prog 23 #[.slice A n c] w (Parts xs w) := by
  have H := Mm.hid h
  clear h
  go_enter Try.func23, Try.ntmps23
  go_wp2
  go_loop [4, 5, 6, 7, 24, 28, 32, 36] (fun s x i y y1 y2 y3 y4 => ∃ k, k ≤ n ∧ i = .int .i64 (k : Nat) ∧ s = .int .i64 (reTo xs k) ∧ x = .int .i64 (imTo xs k)) (fun _ _ i _ _ _ _ _ => n - (intOf i).toNat)
  case atStart => exact ⟨0, Nat.zero_le _, rfl, rfl, rfl⟩
  case round =>
    obtain ⟨k, hk, rfl, rfl, rfl⟩ := hrel
    have L1 := reTo_le xs k (by have := H.out.1; omega)
    have L2 := imTo_le xs k (by have := H.out.1; omega)
    by_cases hlt : k < n
    · obtain ⟨ad, hA, hl, hc⟩ := H.out.2 (by omega)
      subst hA
      have h1 : w.cell? (ad.add k) = some (.int .i64 (xs.getD k 0)) := hc k hlt
      have S1 := Mm.hid (reTo_succ xs k (by have := H.out.1; omega))
      have S2 := Mm.hid (imTo_succ xs k (by have := H.out.1; omega))
      have B := Mm.hid (And.intro L1 L2)
      generalize xs.getD k 0 = mm at *
      have Hy := Mm.hid (turn_cases mm)
      clear hl hc
      generalize reTo xs k = ra at *
      generalize imTo xs k = ia at *
      rcases Hy.out with ⟨e, e1, e2⟩ | ⟨e, e1, e2⟩ | ⟨e, e1, e2⟩ | ⟨e, e1, e2⟩ | ⟨e, e1, e2⟩ | ⟨e, e1, e2⟩ | ⟨e, e1, e2⟩
      all_goals
        have E := Mm.hid (And.intro e1 e2)
        clear e1 e2 Hy
        go_wp2
        go_round
        case rel => exact ⟨k + 1, by omega, by go_num, by rw [S1.out, E.out.1]; try first | rfl | (simp; done) | (simp; omega), by rw [S2.out, E.out.2]; try first | rfl | (simp; done) | (simp; omega)⟩
        case measure => simp [intOf]; omega
    · have hkn : Hid (k = xs.length) := by have := H.out.1; unfold Hid; omega
      have d1 := Mm.hid (Dy.ofInt (reTo xs k) (by omega))
      have d2 := Mm.hid (Dy.ofInt (imTo xs k) (by omega))
      go_wp2
      go_ret2
      exact ⟨_, _, rfl, rfl, by rw [← hkn.out]; exact d1.out, by rw [← hkn.out]; exact d2.out⟩
end Go.Proofs.Ytbhchnfdhdjfnaa

/- Walk: the law MeterCompass. -/
import Derived.Test.YtbhchnfdhdjfnaaRCompass
namespace Go.Proofs.Ytbhchnfdhdjfnaa
open Go.RowKit Go.Mm
theorem info3 : (Try.prog.info? 3).map (fun i => (i.zero, i.size, i.bytes)) = some (some (.int .i64 0), 1, 8) := by kernel_rfl
theorem fI_one {xs : List Int} : ∀ u ∈ xs.flatMap fI, u.oneCell' = true := by
  intro u hu
  obtain ⟨x, _, hx⟩ := List.mem_flatMap.1 hu
  simp [fI] at hx; subst hx; rfl
set_option maxHeartbeats 1000000 in
theorem law_compass (A : Option Addr) (n c : Nat) (xs : List Int) (w : World) (h : Sl w 1 8 fI gI A n c xs) :
    Calls Try.prog 6 #[.slice A n c] w fun e w' => e = .returned (.bool true) ∧ Below w.heap.size w w' := by
  have hn : n ≤ 1125899906842624 := by have := h.room; omega
  have H := Mm.hid h
  clear h
  go_enter Try.func6, Try.ntmps6
  go_wp2_with (at_builtin; refine wp_app w.heap.size rfl _ _ 35 3 (.int .i64 0) 1 8 rfl Try.underlying35 info3 rfl (by decide) (by decide) (.slice none 0 0) 0 [] A n c (xs.flatMap fI) rfl rfl H.out.rd fI_one (World.ownsRow_nil _ _ _ _) (Below.refl _ w) (Nat.le_refl _) (by have := H.out.room; omega) ?_)
  intro v1 w1 k1 k2 _ _
  have B1 := Mm.hid k2
  have hv : ∃ A c, v1 = .slice A n c := by
    rcases k1.2 with ⟨rfl, rfl⟩ | ⟨g, cap, cur, rfl, _⟩
    · exact ⟨none, 0, rfl⟩
    · exact ⟨_, cap, rfl⟩
  obtain ⟨A', c', rfl⟩ := hv
  have F1 := Mm.hid (rdI_of (Rd.of_own k1))
  have F2 := Mm.hid ((rdI_of H.out.rd).below k2)
  clear k1 k2
  go_wp2_with fail
  refine (compass_any _ _ _ xs _ F1.out hn).mono ?_
  rintro e w2 ⟨a, b, rfl, hb2, da, db⟩
  have B2 := Mm.hid hb2
  have DA := Mm.hid da
  have DB := Mm.hid db
  have F3 := Mm.hid (F1.out.below hb2)
  have F4 := Mm.hid (F2.out.below hb2)
  clear hb2 da db
  go_wp2_with fail
  refine (rcompass_any _ _ _ xs _ F4.out hn).mono ?_
  rintro e w3 ⟨a', b', rfl, rfl, da, db⟩
  have t1 := Dy.eq_true DA.out da
  have t2 := Dy.eq_true DB.out db
  clear da db F1 F2
  go_wp2_with fail
  go_loopw [7] (fun i wr => ∃ k, k ≤ n ∧ i = .int .i64 (k : Nat) ∧ Hid (Below w2.heap.size w2 wr)) (fun i _ => n - (intOf i).toNat)
  case atStart => exact ⟨0, Nat.zero_le _, rfl, Below.refl _ _⟩
  case round =>
    obtain ⟨k, hk, rfl, hbr⟩ := hrel
    by_cases hlt : k < n
    · obtain ⟨ad', hA', _, hc'⟩ := (F3.out.below hbr.out).2 (by omega)
      obtain ⟨ad, hA, _, hc⟩ := (F4.out.below hbr.out).2 (by omega)
      subst hA hA'
      have h1 := hc' k hlt
      have h2 := hc k hlt
      clear hc hc'
      have hu0 : (0 : Int) ≤ k := by omega
      have hu1 : (k : Int) < n := by omega
      go_wp2_with fail
      go_quiet (fail)
      go_wp2
      go_roundw
      case rel => exact ⟨k + 1, by omega, by go_num, Below.trans hbr.out ⟨rfl, rfl, rfl, Nat.le_refl _, fun _ _ => rfl⟩⟩
      case measure => simp [intOf]; omega
    · go_wp2
      go_ret
      exact ⟨rfl, (B1.out.trans (B2.out.mono B1.out.size)).trans (hbr.out.mono (Nat.le_trans B1.out.size B2.out.size))⟩
end Go.Proofs.Ytbhchnfdhdjfnaa

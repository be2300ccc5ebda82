/- Walk: the law MeterMean. -/
import Derived.Test.YtbhchnfdhdjfnaaMean
import Derived.Test.YtbhchnfdhdjfnaaLean
import Derived.Test.YtbhchnfdhdjfnaaOpen
import Derived.Deep.QuietTactic
import Derived.BigQuiet
namespace Go.Proofs.Ytbhchnfdhdjfnaa
open Go.RowKit Go.Mm
theorem info22 : (Try.prog.info? 22).map (fun i => (i.zero, i.size, i.bytes)) = some (some (.float .f64 0), 1, 8) := by kernel_rfl
def Copied (xs : List Nat) (n : Nat) (w : World) (e : Ending) (w' : World) : Prop :=
  ∃ A c, e = .returned (.slice A n c) ∧ Rd w' A n 1 (xs.flatMap fF) ∧ Below w.heap.size w w'
theorem floats_any (A : Option Addr) (n c : Nat) (xs : List Nat) (w : World) (h : Sl w 1 8 fF gF A n c xs) :
    Calls Try.prog 24 #[.slice A n c] w (Copied xs n w) := by
  have H := Mm.hid h
  clear h
  go_enter Try.func24, Try.ntmps24
  go_wp2_with (at_builtin; refine wp_app w.heap.size rfl _ _ 40 22 (.float .f64 0) 1 8 rfl Try.underlying40 info22 rfl (by decide) (by decide) (.slice none 0 0) 0 [] A n c (xs.flatMap fF) rfl rfl H.out.rd ?_ (World.ownsRow_nil _ _ _ _) (Below.refl _ w) (Nat.le_refl _) ?_ ?_)
  · intro u hu
    obtain ⟨x, _, hx⟩ := List.mem_flatMap.1 hu
    simp [fF] at hx; subst hx; rfl
  · have := H.out.room; omega
  · intro v1 w1 k1 k2 _ _
    have K1 := Mm.hid k1
    have K2 := Mm.hid k2
    clear k1 k2
    go_wp2
    go_ret
    have k1 := K1.out
    have hv : ∃ A c, v1 = .slice A n c := by
      rcases k1.2 with ⟨rfl, rfl⟩ | ⟨g, cap, cur, rfl, _⟩
      · exact ⟨none, 0, rfl⟩
      · exact ⟨_, cap, rfl⟩
    obtain ⟨A', c', rfl⟩ := hv
    exact ⟨A', c', rfl, Rd.of_own k1, K2.out⟩
theorem rdF_of {w : World} {A : Option Addr} {n : Nat} {xs : List Nat} (h : Rd w A n 1 (xs.flatMap fF)) (hn : n ≤ 9223372036854775807) : RdF w A n xs := by
  have hm : xs.flatMap fF = xs.map (.float .f64 ·) := flatMap_one _ xs
  rw [hm] at h
  have h1 : xs.length = n := by have := h.1; simpa using this
  refine ⟨h1, hn, fun h0 => ?_⟩
  obtain ⟨ad, rfl, _, hc⟩ := h.2 h0
  refine ⟨ad, rfl, fun j hj => hc j _ ?_⟩
  rw [List.getElem?_map, List.getElem?_eq_getElem (by omega)]
  simp [List.getD_eq_getElem?_getD, List.getElem?_eq_getElem (show j < xs.length by omega)]
theorem RdF.below {w w' : World} {A : Option Addr} {n : Nat} {xs : List Nat} (h : RdF w A n xs) (hb : Below w.heap.size w w') : RdF w' A n xs :=
  ⟨h.1, h.2.1, fun hn => by
    obtain ⟨ad, rfl, hc⟩ := h.2.2 hn
    refine ⟨ad, rfl, fun j hj => ?_⟩
    have := hc j hj
    rwa [hb.cell (World.block_lt_of_cell? w _ this)]⟩
theorem means_same {xs : List Nat} {a b c d : Nat} (h1 : (xs = [] → a = 0 ∧ b = 0) ∧ (xs ≠ [] → Sm a (meanOf xs) ∧ Sm b (spreadOf xs))) (h2 : (xs = [] → c = 0 ∧ d = 0) ∧ (xs ≠ [] → Sm c (meanOf xs) ∧ Sm d (spreadOf xs))) : Sm a c ∧ Sm b d := by
  by_cases h : xs = []
  · obtain ⟨rfl, rfl⟩ := h1.1 h
    obtain ⟨rfl, rfl⟩ := h2.1 h
    exact ⟨Sm.refl _, Sm.refl _⟩
  · obtain ⟨p, q⟩ := h1.2 h
    obtain ⟨r, s⟩ := h2.2 h
    exact ⟨p.trans r.symm, q.trans s.symm⟩
set_option maxHeartbeats 1000000 in
theorem law_mean (A : Option Addr) (n c : Nat) (xs : List Nat) (w : World) (h : Sl w 1 8 fF gF A n c xs) :
    Calls Try.prog 8 #[.slice A n c] w fun e w' => e = .returned (.bool true) ∧ Below w.heap.size w w' := by
  have hn : n ≤ 140737488351232 := by have := h.room; omega
  have H := Mm.hid h
  clear h
  go_enter Try.func8, Try.ntmps8
  go_wp2_with fail
  refine (floats_any _ _ _ xs _ H.out).mono ?_
  rintro e w1 ⟨A', c', rfl, hr1, hb1⟩
  have F1 := Mm.hid (rdF_of hr1 (by omega))
  have B1 := Mm.hid hb1
  have F2 := Mm.hid ((rdF_of H.out.rd (by omega)).below hb1)
  clear hr1 hb1
  go_wp2_with fail
  refine (mean_any _ _ _ xs _ F1.out).mono ?_
  rintro e w2 ⟨a, b, m, rfl, rfl, h1, h2⟩
  have M1 := Mm.hid (And.intro h1 h2)
  clear h1 h2
  go_wp2_with fail
  refine (rmean_any _ _ _ xs _ (by exact F2.out)).mono ?_
  rintro e w2 ⟨a', b', m', rfl, rfl, h1, h2⟩
  have M2 := Mm.hid (means_same M1.out (And.intro h1 h2))
  clear h1 h2 M1
  go_wp2_with fail
  refine (same_true _ _ _ M2.out.1).mono ?_
  rintro e w2 ⟨rfl, rfl⟩
  go_wp2_with fail
  refine (same_true _ _ _ M2.out.2).mono ?_
  rintro e w2 ⟨rfl, rfl⟩
  go_wp2_with fail
  generalize m + m' = m0 at *
  clear M2
  go_loopw [8] (fun i wr => ∃ k, k ≤ n ∧ i = .int .i64 (k : Nat) ∧ Hid (Below w1.heap.size w1 wr)) (fun i _ => n - (intOf i).toNat)
  case atStart => exact ⟨0, Nat.zero_le _, rfl, below_drewN m0⟩
  case round =>
    obtain ⟨k, hk, rfl, hbr⟩ := hrel
    by_cases hlt : k < n
    · obtain ⟨ad', hA', hc'⟩ := (F1.out.below hbr.out).2.2 (by omega)
      obtain ⟨ad, hA, hc⟩ := (F2.out.below hbr.out).2.2 (by omega)
      subst hA hA'
      have h1 := hc' k hlt
      have h2 := hc k hlt
      clear hc hc'
      have hu0 : (0 : Int) ≤ k := by omega
      have hu1 : (k : Int) < n := by omega
      go_wp2_with fail
      go_quiet ((go_at_call 16; exact Calls.quiet_of_same ((same_true _ _ _ (Sm.refl _)).mono fun _ _ h => ⟨h.1, h.2.symm⟩)))
      go_wp2
      go_roundw
      case rel => exact ⟨k + 1, by omega, by go_num, Below.trans hbr.out ⟨rfl, rfl, rfl, Nat.le_refl _, fun _ _ => rfl⟩⟩
      case measure => simp [intOf]; omega
    · go_wp2
      go_ret
      exact ⟨rfl, B1.out.trans (hbr.out.mono B1.out.size)⟩
end Go.Proofs.Ytbhchnfdhdjfnaa

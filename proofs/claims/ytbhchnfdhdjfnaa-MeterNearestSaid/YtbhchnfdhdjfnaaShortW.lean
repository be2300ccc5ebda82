/- Walk: the law MeterShort. -/
import Derived.Test.YtbhchnfdhdjfnaaShort
namespace Go.Proofs.Ytbhchnfdhdjfnaa
open Go.RowKit Go.Mm
theorem rshort_any (x : Nat) (w : World) (hx : x < 2 ^ 64) : Calls Try.prog 20 #[.float .f64 x] w (RShortEnds x w) := by
  by_cases hin : ∃ z, isD x z ∧ z.natAbs < BB
  · obtain ⟨z, hz, hb⟩ := hin
    by_cases hneg : z < 0
    · exact rshort_neg x z w hz hb hneg
    · exact rshort_pos x z w hz hb hneg
  · exact rshort_out x w hx fun z hz => Nat.le_of_not_lt fun h => hin ⟨z, hz, h⟩
/-- two Shorts of one float -/
theorem Sh.same {x y l y' l' : Nat} (h : Sh x y l) (k : Sh x y' l') : (FloatKind.f64.format.order y y' = some .eq ∨ Sm y y') ∧ (FloatKind.f64.format.order l l' = some .eq ∨ Sm l l') := by
  rcases h with ⟨z, hz, hb, hy, hl⟩ | ⟨ho, rfl, rfl⟩
  · rcases k with ⟨u, hu, _, hy', hl'⟩ | ⟨ho, _, _⟩
    · obtain rfl := hz.uniq hu
      have e1 := eq_d hy hy'
      have e2 := eq_d hl hl'
      simp only [decide_true, beq_iff_eq] at e1 e2
      exact ⟨.inl e1, .inl e2⟩
    · have := ho z hz; omega
  · rcases k with ⟨u, hu, hb, _, _⟩ | ⟨_, rfl, rfl⟩
    · have := ho u hu; omega
    · exact ⟨.inr rfl, .inr rfl⟩
theorem same_eq (x y : Nat) (w : World) (h : FloatKind.f64.format.order x y = some .eq ∨ Sm x y) :
    Calls Try.prog 16 #[.float .f64 x, .float .f64 y] w fun e w' => e = .returned (.bool true) ∧ w = w' := by
  rcases h with h | h
  · have h1 : (FloatKind.f64.format.order x y == some .eq) = true := by rw [h]; rfl
    clear h
    go_enter Try.func16, Try.ntmps16
    go_wp2
    go_ret
    exact ⟨rfl, rfl⟩
  · exact same_true x y w h
set_option maxHeartbeats 1000000 in
theorem law_short (x : Nat) (w : World) (hx : (Lit.float .f64 x).wf = true) : Calls Try.prog 4 #[.float .f64 x] w fun e w' => e = .returned (.bool true) ∧ Below w.heap.size w w' := by
  have hx : x < 2 ^ 64 := by simpa [Lit.wf] using hx
  go_enter Try.func4, Try.ntmps4
  go_wp2_with fail
  refine (short_any x _ hx).mono ?_
  rintro e w1 ⟨r, l, y, n, rfl, HC, HS, rfl⟩
  go_wp2_with fail
  refine (rshort_any x _ hx).mono ?_
  rintro e w1 ⟨y', l', n', rfl, HS', rfl⟩
  have S := Mm.hid (HS.out.same HS'.out)
  have hc2 : ∀ w, (convert 27 22 (.float .f32 r)).run Try.prog w = .ok (.float .f64 y) w := fun w => run_convert_float_float w 27 22 .f32 .f64 r y (by rw [Try.underlying27]; rfl) Try.underlying22 HC.out
  go_wp2_with fail
  refine (same_eq _ _ _ S.out.1).mono ?_
  rintro e w1 ⟨rfl, rfl⟩
  go_wp2_with fail
  refine (same_eq _ _ _ S.out.2).mono ?_
  rintro e w1 ⟨rfl, rfl⟩
  go_wp2_with fail
  go_ret
  exact ⟨rfl, below_drewN _⟩
end Go.Proofs.Ytbhchnfdhdjfnaa

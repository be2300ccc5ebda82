/- The walk of SchedNames. -/
import Derived.Test.YtecppnkfnppmoaaAlv
namespace Go.Proofs.Ytecppnkfnppmoaa
open Go.RowKit Go.Mm
attribute [local go_sem] Oper.semAt_some
/-- alive, as a law calls it -/
theorem alive_below (w : World) : Calls Try.prog 32 #[] w fun e w' => e = .returned (.bool true) ∧ Hid (Below w.heap.size w w') :=
  (alive_any w).mono fun _ _ ⟨h1, h2⟩ => ⟨h1, h2.out.below (fun _ h => h.elim) (Nat.le_refl _)⟩
theorem law_names (w : World) : Calls Try.prog 8 #[] w fun e w' => e = .returned (.bool true) ∧ Below w.heap.size w w' := by
  have AB := Mm.hid (alive_below w)
  go_enter Try.func8, Try.ntmps8
  go_wp2_with fail
  refine AB.out.mono ?_
  rintro _ w' ⟨rfl, hB⟩
  go_wp2_with fail
  go_ret
  exact ⟨rfl, hB.out⟩
end Go.Proofs.Ytecppnkfnppmoaa

/- Walks: a list told anew; a counter's times. -/
import Derived.Test.YtecppnkfnppmoaaCtr
import Derived.Test.YtecppnkfnppmoaaRoundW
import Derived.WalkSpells
namespace Go.Proofs.Ytecppnkfnppmoaa
open Go.RowKit Go.Mm
theorem clone_any (A : Option Addr) (n c : Nat) (xs : List Int) (w : World) (h : Rd w A n 1 (iL xs)) (hl : xs.length = n) (hn : n * 8 ≤ 140737488355328) : 
    Calls Try.prog 41 #[.slice A n c] w (RowEnds w xs) := by
  have R := Mm.hid h
  have L := Mm.hid hl
  clear h hl
  rcases A with _ | ad
  · have h0 : n = 0 := by
      rcases Nat.eq_zero_or_pos n with h | h
      · exact h
      · obtain ⟨_, h, _⟩ := R.out.2 h; cases h
    subst h0
    obtain rfl : xs = [] := List.eq_nil_of_length_eq_zero L.out
    have e1 := fun w : World => Lib.run_eql_slice_nil (P := Try.prog) w 22 3 none 0 c 0 0 Try.underlying22
    go_enter Try.func41, Try.ntmps41
    go_wp2
    go_ret
    exact RowEnds.nil w
  · have e1 := fun w : World => Lib.run_eql_slice_nil (P := Try.prog) w 22 3 (some ad) n c 0 0 Try.underlying22
    have O0 : Hid ((w.alloc (.cells #[] 3)).ownsRow w.heap.size 3 1 (.slice (some ⟨w.heap.size, 0, none⟩) 0 0) 0 []) := own_made (Nat.le_refl _) rfl (by decide)
    have R1 := Mm.hid (R.out.alloc (.cells #[] 3))
    have B0 := Mm.hid ((Below.refl w.heap.size w).alloc (Nat.le_refl _) (.cells #[] 3))
    go_enter Try.func41, Try.ntmps41
    go_wp2_with (at_builtin; go_must (refine wp_ape w.heap.size rfl _ _ 22 3 (.int .i64 0) 1 8 rfl Try.underlying22 info3 rfl (by decide) (by decide) (.slice (some ⟨w.heap.size, 0, none⟩) 0 0) 0 [] (some ad) n c (iL xs) rfl rfl (by exact R1.out) (iL_one xs) (by exact O0.out) B0.out (by simp) (by omega) ?_))
    intro v1 w1 k1 k2 k3 k4
    have K := Mm.hid (And.intro k1 k2)
    clear k1 k2 k3 k4
    go_wp2
    go_ret
    exact .mk L.out K.out.1 K.out.2
theorem times_any (base g : Nat) (last : Int) (v : Value) (ts : List Int) (n : Nat) (w : World) (h : CtrB w g last v) (hl : ts.length = n) (ho : w.ownsRow base 3 1 v n (iL ts)) (hn : n * 8 ≤ 140737488355328) :
    Calls Try.prog 21 #[.pointer (some ⟨g, 0, none⟩)] w (RowEnds w ts) := by
  obtain ⟨A, c, rfl, hc, _, hR⟩ := own_slice ho
  have R := Mm.hid hR
  have c1 : w.cell? ⟨g, 1, none⟩ = some (.slice A n c) := Blk.cell h 1
  have L := Mm.hid hl
  clear h ho hl hR
  go_enter Try.func21, Try.ntmps21
  go_wp2_with fail
  refine (clone_any A n c ts _ R.out L.out hn).mono ?_
  rintro e w1 ⟨A1, m1, c1', rfl, h1, O⟩
  go_wp2
  go_ret
  exact ⟨A1, m1, c1', rfl, h1, O⟩
end Go.Proofs.Ytecppnkfnppmoaa

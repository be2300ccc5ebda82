/- Walks: a waiter made, asked; the law LockNames. -/
import Derived.Test.YtkbobgblohohcaaWait
namespace Go.Proofs.Ytkbobgblohohcaa
open Go.RowKit Go.Mm Go.Cells
theorem enter_any (lb : Nat) (w : World) : Calls Try.prog 45 #[.pointer (some ⟨lb, 0, none⟩)] w fun e w' => e = .returned (.pointer (some ⟨w.heap.size, 0, none⟩)) ∧ w' = w.alloc (.cells #[.pointer (some ⟨lb, 0, none⟩), .int .i64 0, .bool false, .bool false] 150) := by
  go_enter Try.func45, Try.ntmps45
  go_wp2
  go_ret
  exact ⟨rfl, rfl⟩
theorem ticket_any (wb lb : Nat) (W : Wt) (t : Int) (ht : (if W.drawn then W.num else -1) = t) (w : World) (hW : Blk w wb 150 #[.pointer (some ⟨lb, 0, none⟩), .int .i64 W.num, .bool W.drawn, .bool W.holds]) :
    Calls Try.prog 47 #[.pointer (some ⟨wb, 0, none⟩)] w fun e w' => e = .returned (.int .i64 t) ∧ w = w' := by
  obtain ⟨num, drawn, holds⟩ := W
  have c1 : w.cell? ⟨wb, 1, none⟩ = some (.int .i64 num) := hW.cell 1
  have c2 : w.cell? ⟨wb, 2, none⟩ = some (.bool drawn) := hW.cell 2
  clear hW
  cases drawn
  · have e : -1 = t := ht
    subst e
    clear ht
    go_enter Try.func47, Try.ntmps47
    go_wp2
    go_ret
    exact ⟨rfl, rfl⟩
  · have e : num = t := ht
    subst e
    clear ht
    go_enter Try.func47, Try.ntmps47
    go_wp2
    go_ret
    exact ⟨rfl, rfl⟩
section
variable {base g : Nat} {w0 w w' : World} {G : Nat → Prop} {K : World → Prop} {S S' : Cm}
theorem HasG.grow (h : HasG base g w0 G S w) (o : Obj) : HasG base g w0 (fun k => G k ∨ k = w.heap.size) S (w.alloc o) := by
  obtain ⟨F, h1, h2, h3⟩ := h.out
  have hle : base ≤ w.heap.size := by have := h1.lt g h1.fg; omega
  refine ⟨F, h1.below ((Below.refl _ _).alloc (Nat.le_refl _) o), h2.alloc hle o, ?_⟩
  rintro k (hk | rfl)
  · exact ⟨by have := (h3 k hk).1; simp; omega, (h3 k hk).2⟩
  · exact ⟨by simp, fun hF => by have := (h1.lt _ hF).2; omega⟩
theorem HasG.lt (h : HasG base g w0 G S w) {k : Nat} (hk : G k) : k < w.heap.size := by
  obtain ⟨F, h1, h2, h3⟩ := h.out
  exact (h3 k hk).1
theorem HasG.to (h : HasG base g w0 G S w) : Below base w0 w := by
  obtain ⟨_, _, h, _⟩ := h.out
  exact h
theorem HasG.le (h : HasG base g w0 G S w) : base ≤ w.heap.size := by
  obtain ⟨_, h1, _, _⟩ := h.out
  have := h1.lt g h1.fg; omega
end
theorem new_two (w : World) : Calls Try.prog 19 #[.int .i64 2] w (NewEnds 2 w) := new_good 2 w (by decide) (by decide)
theorem step_one (S : Cm) (h : S.ws[0]? = some 0) : stepW 0 1 ⟨0, false, false⟩ S = (false, ⟨0, true, false⟩, S.add 0 1) := by
  have l := (look_good (i := 0) h (by decide)).1
  unfold stepW
  rw [show S.look 0 = (0, 0) from l]
  rfl
theorem step_two (S : Cm) (h : S.ws[1]? = some 0) : stepW 0 1 ⟨0, true, false⟩ S = (true, ⟨0, true, true⟩, S.load 1) := by
  have l := (look_good (i := 1) h (by decide)).1
  unfold stepW
  rw [show S.look 1 = (0, 0) from l]
  rfl
set_option maxRecDepth 100000 in
set_option maxHeartbeats 1000000 in
theorem law_locknames (w : World) : Calls Try.prog 12 #[] w fun e w' => e = .returned (.bool true) ∧ Below w.heap.size w w' := by
  have W0 : Hid ((Cm.new 2).ws[0]? = some 0) := rfl
  have A0 := add_ws (S := Cm.new 2) (i := 0) (y := 1) W0.out (by decide)
  have W1 : Hid (((Cm.new 2).add 0 1).ws[1]? = some 0) := by
    show _ = _
    rw [show ((Cm.new 2).add 0 1).ws = _ from A0.1]
    rfl
  have S1 := Mm.hid (step_one _ W0.out)
  have S2 := Mm.hid (step_two _ W1.out)
  have B1 : Hid (((Cm.new 2).add 0 1).bad = 0 ∧ ((Cm.new 2).add 0 1).tr.length = 1) := ⟨A0.2.1, A0.2.2⟩
  have LC : Hid (lockC 2 0 1 = 0) := by show _ = _; decide
  clear A0
  go_enter Try.func12, Try.ntmps12
  go_wp2_with fail
  refine (new_two _).mono ?_
  rintro e w1 ⟨g, rfl, N1⟩
  have M1 := Mm.hid N1.out.2.1
  have H1 : Hid (HasG w.heap.size g w (fun _ => False) (Cm.new 2) w1) := ⟨_, N1.out.2.1, N1.out.2.2, fun _ h => h.elim⟩
  clear N1
  go_wp2_with fail
  refine (lock_any _ g 2 _ (Cm.new 2) 0 1 _ M1.out rfl (by decide)).mono ?_
  rw [LC.out]
  rintro e w2 (⟨h0, _, _⟩ | ⟨_, rfl, hw2⟩)
  · exact absurd rfl h0
  have H2 : Hid (HasG w.heap.size g w (fun k => False ∨ k = w1.heap.size) (Cm.new 2) w2) := by show HasG _ _ _ _ _ _; rw [hw2]; exact H1.out.grow _
  have L2 : Hid (Blk w2 w1.heap.size 146 #[.pointer (some ⟨g, 0, none⟩), .int .i64 0, .int .i64 1]) := by show Blk _ _ _ _; rw [hw2]; exact Blk.new w1 _ 146
  have hl0 : w.heap.size ≤ w1.heap.size := H1.out.le
  clear hw2 H1 M1
  generalize w1.heap.size = lb at *
  go_wp2_with fail
  refine (enter_any lb _).mono ?_
  rintro e w3 ⟨rfl, hw3⟩
  have H3 : Hid (HasG w.heap.size g w (fun k => (False ∨ k = lb) ∨ k = w2.heap.size) (Cm.new 2) w3) := by show HasG _ _ _ _ _ _; rw [hw3]; exact H2.out.grow _
  have W3 : Hid (Blk w3 w2.heap.size 150 #[.pointer (some ⟨lb, 0, none⟩), .int .i64 0, .bool false, .bool false]) := by show Blk _ _ _ _; rw [hw3]; exact Blk.new w2 _ 150
  have L3 : Hid (Blk w3 lb 146 #[.pointer (some ⟨g, 0, none⟩), .int .i64 0, .int .i64 1]) := by show Blk _ _ _ _; rw [hw3]; exact L2.out.keep (Below.heap_alloc w2 _ _ L2.out.lt)
  have hlw : lb < w2.heap.size := L2.out.lt
  have hw0 : w.heap.size ≤ w2.heap.size := H2.out.le
  clear hw3 H2 L2
  generalize w2.heap.size = wb at *
  go_wp2_with fail
  refine (step_any H3.out 0 1 wb lb ⟨0, false, false⟩ (.inr rfl) hw0 (.inl (.inr rfl)) (by omega) W3.out L3.out (by decide) (by decide)).mono ?_
  rw [S1.out]
  rintro e w4 ⟨rfl, h4, b4, k4⟩
  have H4 := Mm.hid h4
  have W4 := Mm.hid b4
  have L4 := Mm.hid (L3.out.keep (k4 lb (.inl (.inr rfl)) (by omega)))
  clear h4 b4 k4 H3 W3 L3
  go_wp2_with fail
  refine (step_any H4.out 0 1 wb lb ⟨0, true, false⟩ (.inr rfl) hw0 (.inl (.inr rfl)) (by omega) W4.out L4.out (by rw [B1.out.1]; decide) (by rw [B1.out.2]; decide)).mono ?_
  rw [S2.out]
  rintro e w5 ⟨rfl, h5, b5, k5⟩
  have H5 := Mm.hid h5
  have W5 := Mm.hid b5
  clear h5 b5 k5 H4 W4 L4
  go_wp2_with fail
  refine (ticket_any wb lb ⟨0, true, true⟩ 0 rfl _ W5.out).mono ?_
  rintro e w6 ⟨rfl, rfl⟩
  go_wp2
  go_ret
  exact ⟨rfl, H5.out.to⟩
end Go.Proofs.Ytkbobgblohohcaa

/- Walks: a waiter asked whether it is ready; a lock left. -/
import Derived.Test.YtkbobgblohohcaaLkNames
import Derived.Test.YtkbobgblohohcaaWinner
import Derived.StillTailTactics
namespace Go.Proofs.Ytkbobgblohohcaa
open Go.RowKit Go.Mm Go.Cells
section
variable {base g : Nat} {w0 w w' : World} {G : Nat → Prop} {K : World → Prop} {S S' : Cm}
def FreshE (base g : Nat) (w0 w : World) (G : Nat → Prop) (S : Cm) (r : Value) (e : Ending) (w' : World) : Prop := e = .returned r ∧ HasG base g w0 G S w' ∧ Below w.heap.size w w'
set_option maxHeartbeats 1000000 in
theorem peep_any (h : HasG base g w0 G S w) (a : Int) (j : Nat) (x : Int) (hx : S.ws[j]? = some x) :
    Calls Try.prog 86 #[.agg #[.pointer (some ⟨g, 0, none⟩), .int .i64 a, .int .i64 (j : Int)]] w (FreshE base g w0 w G S (.int .i64 x)) := by
  have B := (Below.refl w.heap.size w).alloc (Nat.le_refl _) (.cells #[.pointer (some ⟨g, 0, none⟩), .int .i64 a, .int .i64 (j : Int)] 144)
  have H1 := Mm.hid (h.after B).1
  have BB := Mm.hid B
  obtain ⟨v1, v2⟩ := words_one hx
  have V1 := Mm.hid v1
  have V2 := Mm.hid v2
  clear h B v1 v2 hx
  obtain ⟨F, f1, _⟩ := H1.out.out
  have MB := Mm.hid f1
  clear f1
  go_enter Try.func86, Try.ntmps86
  go_wp2_with fail
  refine (words_any base g F S j 1 _ MB.out (by decide)).mono ?_
  rintro e w3 ⟨A3, m3, c3, rfl, hc3, O3⟩
  rw [V2.out]
  obtain ⟨o1, o2, o3⟩ := O3.out
  rw [V1.out] at o1 o2
  simp only [List.length_cons, List.length_nil] at o1
  obtain rfl : m3 = 1 := by omega
  obtain ⟨g3, cap3, hA3, _, _, _, hcell, _⟩ := own_blk o2 (by decide)
  injection hA3 with e1 _ e3
  subst e1
  subst e3
  have f3 : w3.cell? ⟨g3, 0, none⟩ = some (.int .i64 x) := hcell 0 _ rfl
  have FIN : Hid (HasG base g w0 G S w3 ∧ Below w.heap.size w w3) := ⟨(H1.out.after o3).1, BB.out.trans (o3.mono BB.out.size)⟩
  clear O3 o1 o2 o3 hcell
  go_wp2
  go_ret
  exact ⟨rfl, FIN.out⟩
/-- whether a waiter would hold with its next step, as it stands -/
def readyW (x : Int) (W : Wt) : Bool := W.holds || (!W.drawn || x == W.num)
set_option maxRecDepth 100000 in
set_option maxHeartbeats 1000000 in
theorem leave_any (h : HasG base g w0 G S w) (a b : Int) (lb : Nat) (hL : Blk w lb 146 #[.pointer (some ⟨g, 0, none⟩), .int .i64 a, .int .i64 b])
    (hb : S.bad ≤ 4611686018427387904) (hn : (S.tr.length + 1) * 40 ≤ 140737488355328) :
    Calls Try.prog 52 #[.pointer (some ⟨lb, 0, none⟩)] w (HEG base g w0 w G (S.add b 1) (.int .i64 (S.look b).2)) := by
  have H := Mm.hid h
  have l0 := hL.cell 0
  have l2 := hL.cell 2
  simp only [List.getElem?_toArray, List.getElem?_cons_zero, List.getElem?_cons_succ] at l0 l2
  obtain ⟨r, hr⟩ : ∃ r, S.look b = r := ⟨_, rfl⟩
  have L := Mm.hid hr
  rw [hr]
  clear h hL hr
  obtain ⟨v, e⟩ := r
  have Q : Hid (HasG base g w0 G S w.drew ∧ ∀ k, G k → w.drew.heap[k]? = w.heap[k]?) := by
    obtain ⟨F, h1, h2, h3⟩ := H.out.out
    exact ⟨⟨F, h1.fr (Fr.drew (fun _ => False) w) (fun _ _ h => h), ⟨h2.os, h2.tape, h2.output, h2.size, h2.block⟩, h3⟩, fun _ _ => rfl⟩
  go_enter Try.func52, Try.ntmps52
  go_wp2_with fail
  go_region_with (go_at_call 24; refine (Q.out.1.op fun F m1 m2 => add_any _ g F S b _ 1 m1 m2 hb hn).mono ?_; rintro e' w2 ⟨rfl, h2, k2⟩; rw [L.out]; have H2 := Mm.hid (And.intro h2 fun k hk => (k2 k hk).trans (Q.out.2 k hk)); clear h2 k2)
  all_goals go_wp2
  all_goals go_ret
  all_goals exact ⟨rfl, H2.out⟩
/-- ready: asked, and nothing accessed -/
def ReadyE (base g : Nat) (w0 w : World) (G : Nat → Prop) (S : Cm) (r : Bool) (e : Ending) (w' : World) : Prop := e = .returned (.bool r) ∧ HasG base g w0 G S w' ∧ ∀ k, G k → w'.heap[k]? = w.heap[k]?
set_option maxRecDepth 100000 in
set_option maxHeartbeats 1000000 in
theorem ready_any (h : HasG base g w0 G S w) (a : Int) (j : Nat) (x : Int) (hx : S.ws[j]? = some x) (wb lb : Nat) (W : Wt) (_ : G wb) (hW : Blk w wb 150 #[.pointer (some ⟨lb, 0, none⟩), .int .i64 W.num, .bool W.drawn, .bool W.holds]) (hL : Blk w lb 146 #[.pointer (some ⟨g, 0, none⟩), .int .i64 a, .int .i64 (j : Int)]) :
    Calls Try.prog 51 #[.pointer (some ⟨wb, 0, none⟩)] w (ReadyE base g w0 w G S (readyW x W)) := by
  obtain ⟨num, drawn, holds⟩ := W
  simp only at hW
  have H := Mm.hid h
  have HW := Mm.hid hW
  have LX := Mm.hid hL
  have X := Mm.hid hx
  have hlt := hW.lt
  have Q : Hid (∀ d, HasG base g w0 G S (w.drewN d) ∧ ∀ k, G k → (w.drewN d).heap[k]? = w.heap[k]?) := fun d => by
    obtain ⟨F, h1, h2, h3⟩ := h.out
    exact ⟨⟨F, h1.fr (Fr.drewN (fun _ => False) w d) (fun _ _ h => h), ⟨h2.os, h2.tape, h2.output, h2.size, h2.block⟩, h3⟩, fun _ _ => rfl⟩
  have c0 := hW.cell 0
  have c1 := hW.cell 1
  have c2 := hW.cell 2
  have c3 := hW.cell 3
  have l0 := hL.cell 0
  have l1 := hL.cell 1
  have l2 := hL.cell 2
  simp only [List.getElem?_toArray, List.getElem?_cons_zero, List.getElem?_cons_succ] at c0 c1 c2 c3 l0 l1 l2
  clear h hW hL hx
  cases holds
  · cases drawn
    · have E : Hid (readyW x ⟨num, false, false⟩ = true) := rfl
      rw [E.out]
      go_enter Try.func51, Try.ntmps51
      go_wp2_with fail
      go_quiet (fail)
      go_wp2
      go_ret
      exact ⟨rfl, Q.out _⟩
    · have E : Hid (readyW x ⟨num, true, false⟩ = (x == num)) := rfl
      rw [E.out]
      go_enter Try.func51, Try.ntmps51
      go_wp2_with fail
      go_region_held3 (fun w' => w'.cell? ⟨wb, 0, none⟩ = some (.pointer (some ⟨lb, 0, none⟩)) ∧ w'.cell? ⟨wb, 1, none⟩ = some (.int .i64 num) ∧ w'.cell? ⟨wb, 2, none⟩ = some (.bool true) ∧ w'.cell? ⟨wb, 3, none⟩ = some (.bool false) ∧ w'.cell? ⟨lb, 0, none⟩ = some (.pointer (some ⟨g, 0, none⟩)) ∧ w'.cell? ⟨lb, 1, none⟩ = some (.int .i64 a) ∧ w'.cell? ⟨lb, 2, none⟩ = some (.int .i64 (j : Int))) (go_keep)
        (first | (go_at_call 86; refine (peep_any (w0 := w0) (G := G) (base := base) (S := S) (by exact (Q.out 1).1) a j x X.out).mono ?_; rintro e w2 ⟨rfl, h2, b2⟩; have y1 : w2.cell? ⟨wb, 1, none⟩ = some (.int .i64 num) := (HW.out.keep (b2.block wb hlt)).cell 1; have y0 : w2.cell? ⟨wb, 0, none⟩ = some (.pointer (some ⟨lb, 0, none⟩)) := (HW.out.keep (b2.block wb hlt)).cell 0; have y2 : w2.cell? ⟨wb, 2, none⟩ = some (.bool true) := (HW.out.keep (b2.block wb hlt)).cell 2; have y3 : w2.cell? ⟨wb, 3, none⟩ = some (.bool false) := (HW.out.keep (b2.block wb hlt)).cell 3; have m0 : w2.cell? ⟨lb, 0, none⟩ = some (.pointer (some ⟨g, 0, none⟩)) := (LX.out.keep (b2.block lb LX.out.lt)).cell 0; have m1 : w2.cell? ⟨lb, 1, none⟩ = some (.int .i64 a) := (LX.out.keep (b2.block lb LX.out.lt)).cell 1; have m2 : w2.cell? ⟨lb, 2, none⟩ = some (.int .i64 (j : Int)) := (LX.out.keep (b2.block lb LX.out.lt)).cell 2; have H2 := Mm.hid h2; have B2 := Mm.hid b2; clear h2 b2))
      all_goals go_wp2
      all_goals go_ret
      all_goals exact ⟨rfl, H2.out, fun k hk => B2.out.block k (H.out.lt hk)⟩
  · have E : Hid (readyW x ⟨num, drawn, true⟩ = true) := rfl
    rw [E.out]
    go_enter Try.func51, Try.ntmps51
    go_wp2_with fail
    go_quiet (fail)
    go_wp2
    go_ret
    exact ⟨rfl, Q.out _⟩
end
end Go.Proofs.Ytkbobgblohohcaa

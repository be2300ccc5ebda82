/- Walks: the epoch: grace periods, slots made, left, asked. -/
import Derived.Test.YtkbobgblohohcaaEpA
namespace Go.Proofs.Ytkbobgblohohcaa
open Go.RowKit Go.Mm Go.Cells
section
variable {base g : Nat} {w0 w w' : World} {G : Nat → Prop} {S S' : Cm}
theorem gr_fin (H : HasG base g w0 G S w') (hk : ∀ k, G k → w'.heap[k]? = w.heap[k]?) {gr sl : Nat} {r : Bool} {p' q' : Int} (hx : G gr) (hxb : base ≤ gr) {w2 : World} (hf : Fr (fun k => k = gr) w' w2) (h2 : Blk w2 gr 159 #[.pointer (some ⟨sl, 0, none⟩), .int .i64 p', .int .i64 q']) :
    GrE base g w0 w G gr sl r p' q' S (.returned (.bool r)) w2 :=
  ⟨rfl, H.write hf fun k e => ⟨e ▸ hx, e ▸ hxb⟩, h2, fun k hG hne => (hf.block k (H.lt hG) hne).trans (hk k hG)⟩
set_option maxRecDepth 100000 in
set_option maxHeartbeats 1000000 in
theorem gr_over (h : HasG base g w0 G S w) (sl ep fi n gr : Nat) (mark : Int) (hL : Blk w sl 157 #[.pointer (some ⟨g, 0, none⟩), .int .i64 (ep : Int), .int .i64 (fi : Int), .int .i64 (n : Int)]) (hW : Blk w gr 159 #[.pointer (some ⟨sl, 0, none⟩), .int .i64 mark, .int .i64 (n : Int)]) :
    Calls Try.prog 59 #[.pointer (some ⟨gr, 0, none⟩)] w (GrE base g w0 w G gr sl true mark (n : Int) S) := by
  have l3 : w.cell? ⟨sl, 3, none⟩ = some (.int .i64 (n : Int)) := hL.cell 3
  have c0 : w.cell? ⟨gr, 0, none⟩ = some (.pointer (some ⟨sl, 0, none⟩)) := hW.cell 0
  have c2 : w.cell? ⟨gr, 2, none⟩ = some (.int .i64 (n : Int)) := hW.cell 2
  have FIN : Hid (∀ d, GrE base g w0 w G gr sl true mark (n : Int) S (.returned (.bool true)) (w.drewN d)) := fun d => ⟨rfl, h.drewN d, hW.keep rfl, fun _ _ _ => rfl⟩
  have hb : ((n : Int) == (n : Int)) = true := by simp
  clear h hL hW
  go_enter Try.func59, Try.ntmps59
  go_wp2_with fail
  go_quiet (fail)
  go_wp2
  go_ret
  exact FIN.out _
set_option maxRecDepth 100000 in
set_option maxHeartbeats 1000000 in
theorem gr_first (h : HasG base g w0 G S w) (sl ep fi n gr : Nat) (mark : Int) (hs : G sl) (hx : G gr) (hxb : base ≤ gr) (hL : Blk w sl 157 #[.pointer (some ⟨g, 0, none⟩), .int .i64 (ep : Int), .int .i64 (fi : Int), .int .i64 (n : Int)]) (hW : Blk w gr 159 #[.pointer (some ⟨sl, 0, none⟩), .int .i64 mark, .int .i64 (-1)])
    (hb : S.bad ≤ 4611686018427387904) (hn : (S.tr.length + 1) * 40 ≤ 140737488355328) :
    Calls Try.prog 59 #[.pointer (some ⟨gr, 0, none⟩)] w (GrE base g w0 w G gr sl false (wrap64 ((S.look (ep : Int)).1 + 1)) 0 (S.add (ep : Int) 1)) := by
  have l3 : w.cell? ⟨sl, 3, none⟩ = some (.int .i64 (n : Int)) := hL.cell 3
  have c0 : w.cell? ⟨gr, 0, none⟩ = some (.pointer (some ⟨sl, 0, none⟩)) := hW.cell 0
  have c2 : w.cell? ⟨gr, 2, none⟩ = some (.int .i64 (-1)) := hW.cell 2
  have HL := Mm.hid hL
  have HW := Mm.hid hW
  have H := Mm.hid h
  have GG := Mm.hid (And.intro hs (And.intro hx hxb))
  obtain ⟨r, hr⟩ : ∃ r, S.look (ep : Int) = r := ⟨_, rfl⟩
  have L := Mm.hid hr
  rw [hr]
  have HB := Mm.hid hb
  have HN := Mm.hid hn
  clear h hL hW hr hs hx hxb hb hn
  obtain ⟨v, e⟩ := r
  have hbn : ((-1 : Int) == (n : Int)) = false := beq_eq_false_iff_ne.2 (by omega)
  go_enter Try.func59, Try.ntmps59
  go_wp2_with fail
  go_quiet (fail)
  have H1 := Mm.hid (H.out.drewN nq)
  have L1 : Hid (Blk (w.drewN nq) sl 157 #[.pointer (some ⟨g, 0, none⟩), .int .i64 (ep : Int), .int .i64 (fi : Int), .int .i64 (n : Int)]) := HL.out.keep rfl
  have W1 : Hid (Blk (w.drewN nq) gr 159 #[.pointer (some ⟨sl, 0, none⟩), .int .i64 mark, .int .i64 (-1)]) := HW.out.keep rfl
  have K1 : Hid (∀ k, G k → (w.drewN nq).heap[k]? = w.heap[k]?) := fun _ _ => rfl
  clear l3 c0 c2 HL HW H
  generalize w.drewN nq = w1 at *
  have l0 : w1.cell? ⟨sl, 0, none⟩ = some (.pointer (some ⟨g, 0, none⟩)) := L1.out.cell 0
  have l1 : w1.cell? ⟨sl, 1, none⟩ = some (.int .i64 (ep : Int)) := L1.out.cell 1
  have c0 : w1.cell? ⟨gr, 0, none⟩ = some (.pointer (some ⟨sl, 0, none⟩)) := W1.out.cell 0
  have c2 : w1.cell? ⟨gr, 2, none⟩ = some (.int .i64 (-1)) := W1.out.cell 2
  have Q : Hid (HasG base g w0 G S w1.drew) := H1.out.drewN 1
  go_wp2_with fail
  go_region_held3 (fun w' => w'.cell? ⟨gr, 0, none⟩ = some (.pointer (some ⟨sl, 0, none⟩)) ∧ w'.cell? ⟨sl, 0, none⟩ = some (.pointer (some ⟨g, 0, none⟩)) ∧ w'.cell? ⟨sl, 1, none⟩ = some (.int .i64 (ep : Int))) (go_keep)
    (first | (go_at_call 24; refine (Q.out.op fun F m1 m2 => add_any _ g F S (ep : Int) _ 1 m1 m2 HB.out HN.out).mono ?_; rintro e' w2 ⟨rfl, h2, k2⟩; rw [L.out]; have H2 := Mm.hid h2; have K2 : Hid (∀ k, G k → w2.heap[k]? = w1.heap[k]?) := fun k hk => k2 k hk; have L2 := Mm.hid (L1.out.keep (K2.out sl GG.out.1)); have W2 := Mm.hid (W1.out.keep (K2.out gr GG.out.2.1)); have y0 : w2.cell? ⟨sl, 0, none⟩ = some (.pointer (some ⟨g, 0, none⟩)) := L2.out.cell 0; have y1 : w2.cell? ⟨sl, 1, none⟩ = some (.int .i64 (ep : Int)) := L2.out.cell 1; have z0 : w2.cell? ⟨gr, 0, none⟩ = some (.pointer (some ⟨sl, 0, none⟩)) := W2.out.cell 0; clear h2 k2))
  all_goals (
    clear l0 l1 c0 c2 y0 y1 z0
    have FIN := Mm.hid (gr_fin (r := false) H2.out (fun k hk => (K2.out k hk).trans (K1.out k hk)) GG.out.2.1 GG.out.2.2 ((Fr.setCell w2 ⟨gr, 1, none⟩ (.int .i64 (wrap64 (v + 1)))).trans (Fr.setCell _ ⟨gr, 2, none⟩ (.int .i64 0)) fun _ _ h => h) ((W2.out.set 1 (.int .i64 (wrap64 (v + 1)))).set 2 (.int .i64 0)))
    have z1 : w2.cell? ⟨gr, 1, none⟩ = some (.int .i64 mark) := W2.out.cell 1
    have z2 : w2.cell? ⟨gr, 2, none⟩ = some (.int .i64 (-1)) := W2.out.cell 2
    have z1f : w2.frozen? ⟨gr, 1, none⟩ = false := W2.out.free 1
    have z2f : w2.frozen? ⟨gr, 2, none⟩ = false := W2.out.free 2
    go_wp2
    go_ret
    exact FIN.out)
def grA (t : Bool) (k : Nat) : Int := if t = true then ((k + 1 : Nat) : Int) else (k : Int)
def grT (t : Bool) (k n : Nat) : Bool := t && decide (k + 1 = n)
set_option maxRecDepth 100000 in
set_option maxHeartbeats 2000000 in
/-- it looks at a slot -/
theorem gr_look (h : HasG base g w0 G S w) (sl ep fi n gr k : Nat) (mark : Int) (t : Bool) (ht : goes mark (S.look ((fi : Int) + (k : Int))).1 = t) (hkn : k < n) (hs : G sl) (hx : G gr) (hxb : base ≤ gr) (hL : Blk w sl 157 #[.pointer (some ⟨g, 0, none⟩), .int .i64 (ep : Int), .int .i64 (fi : Int), .int .i64 (n : Int)]) (hW : Blk w gr 159 #[.pointer (some ⟨sl, 0, none⟩), .int .i64 mark, .int .i64 (k : Int)]) (hfi : fi ≤ 65536) (hk : n ≤ 16)
    (hb : S.bad ≤ 4611686018427387904) (hn : (S.tr.length + 1) * 40 ≤ 140737488355328) :
    Calls Try.prog 59 #[.pointer (some ⟨gr, 0, none⟩)] w (GrE base g w0 w G gr sl (grT t k n) mark (grA t k) (S.load ((fi : Int) + (k : Int)))) := by
  have l3 : w.cell? ⟨sl, 3, none⟩ = some (.int .i64 (n : Int)) := hL.cell 3
  have c0 : w.cell? ⟨gr, 0, none⟩ = some (.pointer (some ⟨sl, 0, none⟩)) := hW.cell 0
  have c2 : w.cell? ⟨gr, 2, none⟩ = some (.int .i64 (k : Int)) := hW.cell 2
  have HL := Mm.hid hL
  have HW := Mm.hid hW
  have H := Mm.hid h
  have GG := Mm.hid (And.intro hs (And.intro hx hxb))
  have HB := Mm.hid hb
  have HN := Mm.hid hn
  have T := Mm.hid ht
  clear h hL hW hs hx hxb hb hn ht
  have hbn : ((k : Int) == (n : Int)) = false := beq_eq_false_iff_ne.2 (by omega)
  have hk0 : decide ((k : Int) < 0) = false := decide_eq_false (by omega)
  go_enter Try.func59, Try.ntmps59
  go_wp2_with fail
  go_quiet (fail)
  have H1 := Mm.hid (H.out.drewN nq)
  have L1 : Hid (Blk (w.drewN nq) sl 157 #[.pointer (some ⟨g, 0, none⟩), .int .i64 (ep : Int), .int .i64 (fi : Int), .int .i64 (n : Int)]) := HL.out.keep rfl
  have W1 : Hid (Blk (w.drewN nq) gr 159 #[.pointer (some ⟨sl, 0, none⟩), .int .i64 mark, .int .i64 (k : Int)]) := HW.out.keep rfl
  have K1 : Hid (∀ k, G k → (w.drewN nq).heap[k]? = w.heap[k]?) := fun _ _ => rfl
  clear l3 c0 c2 HL HW H
  generalize w.drewN nq = w1 at *
  have c0 : w1.cell? ⟨gr, 0, none⟩ = some (.pointer (some ⟨sl, 0, none⟩)) := W1.out.cell 0
  have c2 : w1.cell? ⟨gr, 2, none⟩ = some (.int .i64 (k : Int)) := W1.out.cell 2
  have Q : Hid (HasG base g w0 G S w1.drew) := H1.out.drewN 1
  go_wp2_with fail
  go_region_held3 (fun w' => w'.cell? ⟨gr, 0, none⟩ = some (.pointer (some ⟨sl, 0, none⟩)) ∧ w'.cell? ⟨gr, 2, none⟩ = some (.int .i64 (k : Int))) (go_keep)
    (first | (go_at_call 95; refine (slook_any (w := w1.drew) (by exact Q.out) sl ep fi n k GG.out.1 (L1.out.keep rfl) hfi (by omega) HB.out HN.out).mono ?_; rintro e' w2 ⟨rfl, h2, k2⟩; have H2 := Mm.hid h2; have K2 : Hid (∀ k, G k → w2.heap[k]? = w1.heap[k]?) := fun k hk => k2 k hk; have L2 := Mm.hid (L1.out.keep (K2.out sl GG.out.1)); have W2 := Mm.hid (W1.out.keep (K2.out gr GG.out.2.1)); have z0 : w2.cell? ⟨gr, 0, none⟩ = some (.pointer (some ⟨sl, 0, none⟩)) := W2.out.cell 0; have z2 : w2.cell? ⟨gr, 2, none⟩ = some (.int .i64 (k : Int)) := W2.out.cell 2; clear h2 k2) | (go_at_call 94; refine (lets_any gr sl mark (k : Int) _ W2.out).mono ?_; rw [T.out]; rintro e' w9 ⟨rfl, rfl⟩))
  all_goals (
    clear c0 c2 z0
    have l3 : w2.cell? ⟨sl, 3, none⟩ = some (.int .i64 (n : Int)) := L2.out.cell 3
    have c0 : w2.cell? ⟨gr, 0, none⟩ = some (.pointer (some ⟨sl, 0, none⟩)) := W2.out.cell 0
    cases t
    · have FIN : Hid (∀ d, GrE base g w0 w G gr sl (grT false k n) mark (grA false k) (S.load ((fi : Int) + (k : Int))) (.returned (.bool false)) (w2.drewN d)) := fun d => ⟨rfl, H2.out.drewN d, W2.out.keep rfl, fun k hk _ => (K2.out k hk).trans (K1.out k hk)⟩
      go_wp2_with fail
      go_quiet (fail)
      go_wp2
      go_ret
      exact FIN.out _
    · have z2f : w2.frozen? ⟨gr, 2, none⟩ = false := W2.out.free 2
      have W3 : Hid (Blk (w2.setCell ⟨gr, 2, none⟩ (.int .i64 ((k + 1 : Nat) : Int))) gr 159 #[.pointer (some ⟨sl, 0, none⟩), .int .i64 mark, .int .i64 ((k + 1 : Nat) : Int)]) := W2.out.set 2 _
      have F3 := Mm.hid (gr_fin (r := grT true k n) H2.out (fun k hk => (K2.out k hk).trans (K1.out k hk)) GG.out.2.1 GG.out.2.2 (Fr.setCell w2 ⟨gr, 2, none⟩ (.int .i64 ((k + 1 : Nat) : Int))) W3.out)
      have L3 := Mm.hid ((Fr.setCell w2 ⟨gr, 2, none⟩ (.int .i64 ((k + 1 : Nat) : Int))).blk L2.out (blk_ne L2.out W2.out (by decide)))
      have cs : (k : Int) + 1 = ((k + 1 : Nat) : Int) := by omega
      have CS := Mm.hid cs
      clear cs
      go_upto_region 9 with (fail)
      rw [CS.out]
      clear l3 c0 z2 z2f
      have FIN : Hid (∀ d b, b = grT true k n → GrE base g w0 w G gr sl (grT true k n) mark (grA true k) (S.load ((fi : Int) + (k : Int))) (.returned (.bool b)) ((w2.setCell ⟨gr, 2, none⟩ (.int .i64 ((k + 1 : Nat) : Int))).drewN d)) := fun d b hb => ⟨by rw [hb], F3.out.2.1.drewN d, W3.out.keep rfl, F3.out.2.2.2⟩
      have l3 : (w2.setCell ⟨gr, 2, none⟩ (.int .i64 ((k + 1 : Nat) : Int))).cell? ⟨sl, 3, none⟩ = some (.int .i64 (n : Int)) := L3.out.cell 3
      have c0 : (w2.setCell ⟨gr, 2, none⟩ (.int .i64 ((k + 1 : Nat) : Int))).cell? ⟨gr, 0, none⟩ = some (.pointer (some ⟨sl, 0, none⟩)) := W3.out.cell 0
      have c2 : (w2.setCell ⟨gr, 2, none⟩ (.int .i64 ((k + 1 : Nat) : Int))).cell? ⟨gr, 2, none⟩ = some (.int .i64 ((k + 1 : Nat) : Int)) := W3.out.cell 2
      generalize w2.setCell ⟨gr, 2, none⟩ (.int .i64 ((k + 1 : Nat) : Int)) = w3 at *
      have TE : Hid ((((k : Int) + 1) == (n : Int)) = grT true k n) := by
        show _ = _
        unfold grT
        rw [Bool.eq_iff_iff]
        simp
        omega
      go_quiet (fail)
      go_wp2
      go_ret
      exact FIN.out _ _ TE.out)
theorem gat_any (sl ep fi n gr : Nat) (mark at_ t : Int) (ht : (if at_ = (n : Int) then -1 else at_) = t) (hL : Blk w sl 157 #[.pointer (some ⟨g, 0, none⟩), .int .i64 (ep : Int), .int .i64 (fi : Int), .int .i64 (n : Int)]) (hW : Blk w gr 159 #[.pointer (some ⟨sl, 0, none⟩), .int .i64 mark, .int .i64 at_]) :
    Calls Try.prog 62 #[.pointer (some ⟨gr, 0, none⟩)] w fun e w' => e = .returned (.int .i64 t) ∧ ∃ d, w' = w.drewN d := by
  have l3 : w.cell? ⟨sl, 3, none⟩ = some (.int .i64 (n : Int)) := hL.cell 3
  have c0 : w.cell? ⟨gr, 0, none⟩ = some (.pointer (some ⟨sl, 0, none⟩)) := hW.cell 0
  have c2 : w.cell? ⟨gr, 2, none⟩ = some (.int .i64 at_) := hW.cell 2
  clear hL hW
  by_cases he : at_ = (n : Int)
  · rw [if_pos he] at ht
    subst ht
    have hb : (at_ == (n : Int)) = true := by simpa using he
    clear he
    go_enter Try.func62, Try.ntmps62
    go_wp2_with fail
    go_quiet (fail)
    go_wp2
    go_ret
    exact ⟨rfl, _, rfl⟩
  · rw [if_neg he] at ht
    subst ht
    have hb : (at_ == (n : Int)) = false := beq_eq_false_iff_ne.2 he
    clear he
    go_enter Try.func62, Try.ntmps62
    go_wp2_with fail
    go_quiet (fail)
    go_wp2
    go_ret
    exact ⟨rfl, _, rfl⟩
end
end Go.Proofs.Ytkbobgblohohcaa

/- Walks: the scene: a waiter steps, is asked, tells its ticket. -/
import Derived.Test.YtkbobgblohohcaaScD
namespace Go.Proofs.Ytkbobgblohohcaa
open Go.RowKit Go.Mm Go.Cells
section
variable {base g r lb : Nat} {w0 w : World} {G : Nat → Prop} {S S' S2 : Cm}
theorem LB.step (h : LB base g r lb w0 G S S2 w) (a b : Int) (wb kb : Nat) (W : Wt) (hw : G wb) (hl : G kb) (hne : kb ≠ wb) (hW : Blk w wb 150 #[.pointer (some ⟨kb, 0, none⟩), .int .i64 W.num, .bool W.drawn, .bool W.holds]) (hL : Blk w kb 146 #[.pointer (some ⟨g, 0, none⟩), .int .i64 a, .int .i64 b])
    (hb : S.bad ≤ 4611686018427387904) (hn : (S.tr.length + 1) * 40 ≤ 140737488355328) :
    Calls Try.prog 46 #[.pointer (some ⟨wb, 0, none⟩)] w (LE base g r lb w0 G (stepW a b W S).2.2 S2 (.bool (stepW a b W S).1) (fun w' => Blk w' wb 150 #[.pointer (some ⟨kb, 0, none⟩), .int .i64 (stepW a b W S).2.1.num, .bool (stepW a b W S).2.1.drawn, .bool (stepW a b W S).2.1.holds]) (fun k => k = wb) w) :=
  h.op (fun _ hk => hk ▸ hw) fun _ hs hG => (step_any hG a b wb kb W (hs _ hw) (h.ge hw) (hs _ hl) hne hW hL hb hn).mono fun _ _ hh => ⟨hh.1, hh.2.1, hh.2.2.1, hh.2.2.2⟩
theorem LB.rstep (h : LB base g r lb w0 G S' S w) (a b : Int) (qb kb : Nat) (W : Wt) (hq : G qb) (hk : G kb) (hW : Blk w qb 177 #[.pointer (some ⟨kb, 0, none⟩), .int .i64 (stN W), .int .i64 W.num]) (hK : Blk w kb 148 #[.pointer (some ⟨r, 0, none⟩), .int .i64 a, .int .i64 b])
    (hb : S.bad ≤ 4611686018427387904) (hn : (S.tr.length + 1) * 40 ≤ 140737488355328) (hlb : (lb + 1) * 24 ≤ 140737488355328) :
    Calls Try.prog 90 #[.pointer (some ⟨qb, 0, none⟩)] w (LE base g r (lb + 1) w0 G S' (stepW a b W S).2.2 (.bool (stepW a b W S).1) (fun w' => Blk w' qb 177 #[.pointer (some ⟨kb, 0, none⟩), .int .i64 (stN (stepW a b W S).2.1), .int .i64 (stepW a b W S).2.1.num]) (fun k => k = qb) w) :=
  h.opR (fun _ hk => hk ▸ hq) fun _ h1 h2 h3 => (rstep_any a b qb kb W h1 (h3 _ hq) (h3 _ hk) hW hK h2 hb hn hlb).mono fun _ _ hh => ⟨hh.1, hh.2.1, hh.2.2⟩
theorem LB.ready (h : LB base g r lb w0 G S S2 w) (a : Int) (j : Nat) (x : Int) (hx : S.ws[j]? = some x) (wb kb : Nat) (W : Wt) (hw : G wb) (hW : Blk w wb 150 #[.pointer (some ⟨kb, 0, none⟩), .int .i64 W.num, .bool W.drawn, .bool W.holds]) (hL : Blk w kb 146 #[.pointer (some ⟨g, 0, none⟩), .int .i64 a, .int .i64 (j : Int)]) :
    Calls Try.prog 51 #[.pointer (some ⟨wb, 0, none⟩)] w (LE base g r lb w0 G S S2 (.bool (readyW x W)) (fun _ => True) (fun _ => False) w) :=
  h.op (fun _ h => h.elim) fun _ hs hG => (ready_any hG a j x hx wb kb W (hs _ hw) hW hL).mono fun _ _ hh => ⟨hh.1, hh.2.1, trivial, fun k hk _ => hh.2.2 k hk⟩
theorem LB.rready (h : LB base g r lb w0 G S' S w) (a : Int) (j : Nat) (x : Int) (hx : S.ws[j]? = some x) (qb kb : Nat) (W : Wt) (ok : WtOK W) (hW : Blk w qb 177 #[.pointer (some ⟨kb, 0, none⟩), .int .i64 (stN W), .int .i64 W.num]) (hK : Blk w kb 148 #[.pointer (some ⟨r, 0, none⟩), .int .i64 a, .int .i64 (j : Int)]) (hlb : (lb + 1) * 24 ≤ 140737488355328) :
    Calls Try.prog 91 #[.pointer (some ⟨qb, 0, none⟩)] w (LE base g r lb w0 G S' S (.bool (readyW x W)) (fun _ => True) (fun _ => False) w) :=
  h.opR (fun _ h => h.elim) fun F h1 _ _ => (rready_any a j x hx qb kb W ok h1 hW hK hlb).mono fun _ _ hh => ⟨hh.1, trivial, F, h1.below hh.2, fun _ hk => .inl hk, (Fr.of_below hh.2).mono fun _ h => h.elim⟩
theorem LB.leave (h : LB base g r lb w0 G S S2 w) (a b : Int) (kb : Nat) (hL : Blk w kb 146 #[.pointer (some ⟨g, 0, none⟩), .int .i64 a, .int .i64 b]) (hb : S.bad ≤ 4611686018427387904) (hn : (S.tr.length + 1) * 40 ≤ 140737488355328) :
    Calls Try.prog 52 #[.pointer (some ⟨kb, 0, none⟩)] w (LE base g r lb w0 G (S.add b 1) S2 (.int .i64 (S.look b).2) (fun _ => True) (fun _ => False) w) :=
  h.op (fun _ h => h.elim) fun _ _ hG => (leave_any hG a b kb hL hb hn).mono fun _ _ hh => ⟨hh.1, hh.2.1, trivial, fun k hk _ => hh.2.2 k hk⟩
theorem LB.rleave (h : LB base g r lb w0 G S' S w) (a b : Int) (kb : Nat) (hK : Blk w kb 148 #[.pointer (some ⟨r, 0, none⟩), .int .i64 a, .int .i64 b]) (hb : S.bad ≤ 4611686018427387904) (hn : (S.tr.length + 1) * 40 ≤ 140737488355328) (hlb : (lb + 1) * 24 ≤ 140737488355328) :
    Calls Try.prog 88 #[.pointer (some ⟨kb, 0, none⟩)] w (LE base g r (lb + 1) w0 G S' (S.add b 1) (.int .i64 (S.look b).2) (fun _ => True) (fun _ => False) w) :=
  h.rop fun _ h1 h2 => rleave_any a b kb h1 hK h2 hb hn hlb
end
section
variable {base g r sb lL l0 l1 kb n k : Nat} {w0 w : World} {a : Int} {j : Nat}
set_option maxRecDepth 100000 in
set_option maxHeartbeats 4000000 in
theorem scene_step (nn x y : Int) (h : ScS base g r w0 a (j : Int) sb lL l0 l1 kb n k w) (hk : k ≤ 1048576) :
    Calls Try.prog 53 #[.pointer (some ⟨sb, 0, none⟩), .agg #[.int .i64 2, .int .i64 nn, .int .i64 x, .int .i64 y]] w (ScE base g r w0 a (j : Int) sb lL l0 l1 kb n (k + 1)) := by
  obtain ⟨G, Es, vW, vQ, S, h1, h2, h3, h4, h5, h6⟩ := h
  have BX := Mm.hid (Blk.new w #[.int .i64 2, .int .i64 nn, .int .i64 x, .int .i64 y] 90)
  have C1 := Mm.hid (h1.keep (w' := w.alloc (.cells #[.int .i64 2, .int .i64 nn, .int .i64 x, .int .i64 y] 90)) fun k hk => Below.heap_alloc w _ k (h2.lt hk))
  have L1 := Mm.hid (h2.grow (.cells #[.int .i64 2, .int .i64 nn, .int .i64 x, .int .i64 y] 90))
  have HB : Hid (S.bad ≤ 4611686018427387904) := Mm.hid (by omega)
  have HN : Hid ((S.tr.length + 1) * 40 ≤ 140737488355328) := Mm.hid (by omega)
  have LBD : Hid ((k + 1) * 24 ≤ 140737488355328) := Mm.hid (by omega)
  have HH := Mm.hid (And.intro h3 (And.intro h4 (And.intro h5 h6)))
  obtain ⟨m, hm⟩ : ∃ m, Es.length = m := ⟨_, rfl⟩
  have HM := Mm.hid hm
  have hmk : m ≤ 1048576 := by omega
  have FIN0 : Hid (ScS base g r w0 a (j : Int) sb lL l0 l1 kb n (k + 1) (w.alloc (.cells #[.int .i64 2, .int .i64 nn, .int .i64 x, .int .i64 y] 90))) := ⟨G, Es, vW, vQ, S, C1.out, (L1.out.sub fun _ hk => .inl hk).more (Nat.le_succ k), h3, by omega, by omega, by omega⟩
  clear h1 h2 h3 h4 h5 h6 hm
  have rW := C1.out.rW
  rw [List.length_map, HM.out] at rW
  obtain ⟨A, cW, rfl, hcW, _, _⟩ := own_slice rW
  clear rW
  rcases Nat.eq_zero_or_pos m with rfl | hm0
  · go_enter Try.func53, Try.ntmps53
    go_upto_region 1 with (fail)
    generalize w.alloc (.cells #[.int .i64 2, .int .i64 nn, .int .i64 x, .int .i64 y] 90) = w1 at *
    obtain ⟨b0, b1, b2, b3⟩ := box90 BX.out
    have y2 : w1.cell? ⟨sb, 2, none⟩ = some (.slice A 0 cW) := C1.out.scene.cell 2
    go_wp2
    go_ret
    exact ⟨rfl, FIN0.out⟩
  · clear FIN0
    go_enter Try.func53, Try.ntmps53
    go_upto_region 1 with (fail)
    generalize w.alloc (.cells #[.int .i64 2, .int .i64 nn, .int .i64 x, .int .i64 y] 90) = w1 at *
    obtain ⟨b0, b1, b2, b3⟩ := box90 BX.out
    have y2 : w1.cell? ⟨sb, 2, none⟩ = some (.slice A m cW) := C1.out.scene.cell 2
    go_wp2_with fail
    go_region_held3 (fun w' => w'.cell? ⟨sb, 2, none⟩ = some (.slice A m cW) ∧ w'.cell? ⟨w.heap.size, 1, none⟩ = some (.int .i64 nn)) (go_keep)
      (first | (go_at_call 43; refine (pick17_any nn m _ hm0 (by omega)).mono ?_; rintro e w8 ⟨p, hp, rfl, rfl, -⟩; have z2 : w1.drew.cell? ⟨sb, 2, none⟩ = some (.slice A m cW) := y2; have z1 : w1.drew.cell? ⟨w.heap.size, 1, none⟩ = some (.int .i64 nn) := b1))
    all_goals (
      have C2 : Hid (SC base g r a (j : Int) G sb lL l0 l1 kb Es (Es.map eW) (Es.map eQ) (.slice A m cW) vQ w1.drew) := C1.out.keep fun _ _ => rfl
      have X2 : Hid (Blk w1.drew w.heap.size 90 #[.int .i64 2, .int .i64 nn, .int .i64 x, .int .i64 y]) := BX.out.keep rfl
      have L2 := Mm.hid L1.out.drew
      clear z2 z1 b0 b1 b2 b3 y2 BX C1 L1
      generalize w1.drew = w2 at *
      obtain ⟨E, hE⟩ : ∃ E, Es[p]? = some E := ⟨_, List.getElem?_eq_getElem (by rw [HM.out]; exact hp)⟩
      obtain ⟨gW, cW', gQ, cQ, e1, e2, c1, c2, q1, q2, q3, q4, q5, q6, d1, d2⟩ := C2.out.at hE
      rw [HM.out] at e1 e2 c1 c2
      injection e1 with e1 _ e3
      subst e1 e3 e2
      obtain ⟨p1, p2, p3, p4, p5⟩ := C2.out.ent p E hE
      obtain ⟨kG, kB⟩ := C2.out.lkG E.l
      have HE := Mm.hid hE
      have P1 := Mm.hid (And.intro p1 p2)
      have P3 := Mm.hid p3
      have P4 := Mm.hid p4
      have P5 := Mm.hid p5
      have KG := Mm.hid kG
      have KB := Mm.hid kB
      have GQ := Mm.hid (And.intro q1 q2)
      have NE := Mm.hid (And.intro q3 (And.intro q4 (And.intro q5 q6)))
      have KK := Mm.hid C2.out.kk
      have hne : lkB l0 l1 E.l ≠ E.wb := blk_ne kB p3 (by decide)
      have NE2 := Mm.hid (And.intro hne (And.intro (blk_ne p4 p3 (by decide)) (And.intro (blk_ne KK.out p3 (by decide)) (blk_ne KK.out p4 (by decide)))))
      obtain ⟨b0, b1, b2, b3⟩ := box90 X2.out
      have y2 : w2.cell? ⟨sb, 2, none⟩ = some (.slice (some ⟨gW, 0, none⟩) m cW) := C2.out.scene.cell 2
      have y5 : w2.cell? ⟨sb, 5, none⟩ = some (.slice (some ⟨gQ, 0, none⟩) m cQ) := C2.out.scene.cell 5
      have SG := Mm.hid (And.intro C2.out.gs (And.intro (blk_ne C2.out.scene p3 (by decide)) (blk_ne C2.out.scene p4 (by decide))))
      obtain ⟨Z, hZ⟩ : ∃ Z, stepW a (j : Int) E.W S = Z := ⟨_, rfl⟩
      obtain ⟨t, W', S'⟩ := Z
      have ZZ := Mm.hid hZ
      have OK' : Hid (WtOK W') := by have := stepW_ok (a := a) (b := (j : Int)) (S := S) P5.out; rw [hZ] at this; exact this
      have LE' : Hid (S'.tr.length ≤ S.tr.length + 1 ∧ S'.bad ≤ S.bad + 1 ∧ S'.ws.length = S.ws.length) := by have := stepW_le (a := a) (b := (j : Int)) (W := E.W) (S := S); rw [hZ] at this; exact this
      have L2d := Mm.hid L2.out.drew
      have CA := Mm.hid (L2d.out.step a (j : Int) E.wb (lkB l0 l1 E.l) E.W (.inl P1.out.1) (.inl KG.out) NE2.out.1 (P3.out.keep rfl) (KB.out.keep rfl) HB.out HN.out)
      have CB : Hid (∀ w3, LB base g r k w0 (fun k => G k ∨ k = w.heap.size) S' S w3 → Blk w3 E.qb 177 #[.pointer (some ⟨kb, 0, none⟩), .int .i64 (stN E.W), .int .i64 E.W.num] → Blk w3 kb 148 #[.pointer (some ⟨r, 0, none⟩), .int .i64 a, .int .i64 (j : Int)] → Calls Try.prog 90 #[.pointer (some ⟨E.qb, 0, none⟩)] w3 (LE base g r (k + 1) w0 (fun k => G k ∨ k = w.heap.size) S' S' (.bool t) (fun w' => Blk w' E.qb 177 #[.pointer (some ⟨kb, 0, none⟩), .int .i64 (stN W'), .int .i64 W'.num]) (fun k => k = E.qb) w3)) := fun w3 q1 q2 q3 => by
        have := q1.rstep a (j : Int) E.qb kb E.W (.inl P1.out.2) (.inl C2.out.gk) q2 q3 HB.out HN.out LBD.out
        rw [ZZ.out] at this
        exact this
      rw [hZ] at CA
      clear hE hZ q1 q2 q3 q4 q5 q6 p1 p2 p3 p4 p5 kG kB
      go_wp2_with fail
      go_region_held3 (fun w' => w'.cell? ⟨sb, 2, none⟩ = some (.slice (some ⟨gW, 0, none⟩) m cW) ∧ w'.cell? ⟨sb, 5, none⟩ = some (.slice (some ⟨gQ, 0, none⟩) m cQ) ∧ w'.cell? ⟨gW, p, none⟩ = some (.pointer (some ⟨E.wb, 0, none⟩)) ∧ w'.cell? ⟨gQ, p, none⟩ = some (.pointer (some ⟨E.qb, 0, none⟩))) (go_keep)
        (first | (go_at_call 46; refine (CA.out).mono ?_; rintro e w3 ⟨rfl, l3, b3, k3⟩; have L3 := Mm.hid l3; have B3 := Mm.hid b3; have K3 : Hid (∀ k, G k → k ≠ E.wb → w3.heap[k]? = w2.heap[k]?) := fun k hk hx => k3 k (.inl hk) hx; have z2 : w3.cell? ⟨sb, 2, none⟩ = some (.slice (some ⟨gW, 0, none⟩) m cW) := (World.cell?_of_block (K3.out sb SG.out.1 SG.out.2.1)).trans y2; have z5 : w3.cell? ⟨sb, 5, none⟩ = some (.slice (some ⟨gQ, 0, none⟩) m cQ) := (World.cell?_of_block (K3.out sb SG.out.1 SG.out.2.1)).trans y5; have z6 : w3.cell? ⟨gW, p, none⟩ = some (.pointer (some ⟨E.wb, 0, none⟩)) := (World.cell?_of_block (K3.out gW GQ.out.1 NE.out.1)).trans d1; have z7 : w3.cell? ⟨gQ, p, none⟩ = some (.pointer (some ⟨E.qb, 0, none⟩)) := (World.cell?_of_block (K3.out gQ GQ.out.2 NE.out.2.2.1)).trans d2; clear l3 b3 k3) | (go_at_call 90; refine (CB.out _ L3.out (P4.out.keep (K3.out _ P1.out.2 NE2.out.2.1)) (KK.out.keep (K3.out _ C2.out.gk NE2.out.2.2.1))).mono ?_; rintro e w4 ⟨rfl, l4, b4, k4⟩; have L4 := Mm.hid l4; have B4 := Mm.hid b4; have K4 : Hid (∀ k, G k → k ≠ E.qb → w4.heap[k]? = w3.heap[k]?) := fun k hk hx => k4 k (.inl hk) hx; have z2 : w4.cell? ⟨sb, 2, none⟩ = some (.slice (some ⟨gW, 0, none⟩) m cW) := (World.cell?_of_block (K4.out sb SG.out.1 SG.out.2.2)).trans z2; have z5 : w4.cell? ⟨sb, 5, none⟩ = some (.slice (some ⟨gQ, 0, none⟩) m cQ) := (World.cell?_of_block (K4.out sb SG.out.1 SG.out.2.2)).trans z5; have z6 : w4.cell? ⟨gW, p, none⟩ = some (.pointer (some ⟨E.wb, 0, none⟩)) := (World.cell?_of_block (K4.out gW GQ.out.1 NE.out.2.1)).trans z6; have z7 : w4.cell? ⟨gQ, p, none⟩ = some (.pointer (some ⟨E.qb, 0, none⟩)) := (World.cell?_of_block (K4.out gQ GQ.out.2 NE.out.2.2.2)).trans z7; clear l4 b4 k4))
      all_goals (
        have FIN : Hid (ScS base g r w0 a (j : Int) sb lL l0 l1 kb n (k + 1) w4) := by
          have hh := HH.out
          have hl := LE'.out
          exact ⟨G, Es.set p { E with W := W' }, _, _, S', C2.out.turn HE.out (fun k hk h1 h2 => (K4.out k hk h2).trans (K3.out k hk h1)) (B3.out.keep (K4.out _ P1.out.1 (Ne.symm NE2.out.2.1))) B4.out OK'.out, L4.out.sub fun _ hk => .inl hk, by omega, by omega, by omega, by rw [List.length_set]; omega⟩
        clear CA CB y2 y5 d1 d2 b0 b1 b2 b3 z2 z5 z6 z7
        go_wp2
        go_ret
        exact ⟨by simp, FIN.out⟩))
end
end Go.Proofs.Ytkbobgblohohcaa

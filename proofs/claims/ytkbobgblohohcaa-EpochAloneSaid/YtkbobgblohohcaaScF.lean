/- Walks: the scene: a waiter is asked whether it is ready, and for its ticket (printed by gen_scf.py). -/
import Derived.Test.YtkbobgblohohcaaScE
namespace Go.Proofs.Ytkbobgblohohcaa
open Go.RowKit Go.Mm Go.Cells
section
variable {base g r sb lL l0 l1 kb n k : Nat} {w0 w : World} {a : Int} {j : Nat}
set_option maxRecDepth 100000 in
set_option maxHeartbeats 4000000 in
theorem scene_ready (nn x y : Int) (hj : j < n) (h : ScS base g r w0 a (j : Int) sb lL l0 l1 kb n k w) (hk : k ≤ 1048576) :
    Calls Try.prog 53 #[.pointer (some ⟨sb, 0, none⟩), .agg #[.int .i64 3, .int .i64 nn, .int .i64 x, .int .i64 y]] w (ScE base g r w0 a (j : Int) sb lL l0 l1 kb n (k + 1)) := by
  obtain ⟨G, Es, vW, vQ, S, h1, h2, h3, h4, h5, h6⟩ := h
  have BX := Mm.hid (Blk.new w #[.int .i64 3, .int .i64 nn, .int .i64 x, .int .i64 y] 90)
  have C1 := Mm.hid (h1.keep (w' := w.alloc (.cells #[.int .i64 3, .int .i64 nn, .int .i64 x, .int .i64 y] 90)) fun k hk => Below.heap_alloc w _ k (h2.lt hk))
  have L1 := Mm.hid (h2.grow (.cells #[.int .i64 3, .int .i64 nn, .int .i64 x, .int .i64 y] 90))
  have LBD : Hid ((k + 1) * 24 ≤ 140737488355328) := Mm.hid (by omega)
  have HH := Mm.hid (And.intro h3 (And.intro h4 (And.intro h5 h6)))
  obtain ⟨m, hm⟩ : ∃ m, Es.length = m := ⟨_, rfl⟩
  have HM := Mm.hid hm
  have hmk : m ≤ 1048576 := by omega
  have FIN0 : Hid (ScS base g r w0 a (j : Int) sb lL l0 l1 kb n (k + 1) (w.alloc (.cells #[.int .i64 3, .int .i64 nn, .int .i64 x, .int .i64 y] 90))) := ⟨G, Es, vW, vQ, S, C1.out, (L1.out.sub fun _ hk => .inl hk).more (Nat.le_succ k), h3, by omega, by omega, by omega⟩
  obtain ⟨v, hv⟩ : ∃ v, S.ws[j]? = some v := ⟨_, List.getElem?_eq_getElem (by omega)⟩
  have X1 := Mm.hid hv
  clear hv
  clear h1 h2 h3 h4 h5 h6 hm
  have rW := C1.out.rW
  rw [List.length_map, HM.out] at rW
  obtain ⟨A, cW, rfl, hcW, _, _⟩ := own_slice rW
  clear rW
  rcases Nat.eq_zero_or_pos m with rfl | hm0
  · go_enter Try.func53, Try.ntmps53
    go_upto_region 1 with (fail)
    generalize w.alloc (.cells #[.int .i64 3, .int .i64 nn, .int .i64 x, .int .i64 y] 90) = w1 at *
    obtain ⟨b0, b1, b2, b3⟩ := box90 BX.out
    have y2 : w1.cell? ⟨sb, 2, none⟩ = some (.slice A 0 cW) := C1.out.scene.cell 2
    go_wp2
    go_ret
    exact ⟨rfl, FIN0.out⟩
  · clear FIN0
    go_enter Try.func53, Try.ntmps53
    go_upto_region 1 with (fail)
    generalize w.alloc (.cells #[.int .i64 3, .int .i64 nn, .int .i64 x, .int .i64 y] 90) = w1 at *
    obtain ⟨b0, b1, b2, b3⟩ := box90 BX.out
    have y2 : w1.cell? ⟨sb, 2, none⟩ = some (.slice A m cW) := C1.out.scene.cell 2
    go_wp2_with fail
    go_region_held3 (fun w' => w'.cell? ⟨sb, 2, none⟩ = some (.slice A m cW) ∧ w'.cell? ⟨w.heap.size, 1, none⟩ = some (.int .i64 nn)) (go_keep)
      (first | (go_at_call 43; refine (pick17_any nn m _ hm0 (by omega)).mono ?_; rintro e w8 ⟨p, hp, rfl, rfl, -⟩; have z2 : w1.drew.cell? ⟨sb, 2, none⟩ = some (.slice A m cW) := y2; have z1 : w1.drew.cell? ⟨w.heap.size, 1, none⟩ = some (.int .i64 nn) := b1))
    all_goals (
      have C2 : Hid (SC base g r a (j : Int) G sb lL l0 l1 kb Es (Es.map eW) (Es.map eQ) (.slice A m cW) vQ w1.drew) := C1.out.keep fun _ _ => rfl
      have X2 : Hid (Blk w1.drew w.heap.size 90 #[.int .i64 3, .int .i64 nn, .int .i64 x, .int .i64 y]) := BX.out.keep rfl
      have L2 := Mm.hid L1.out.drew
      clear z2 z1 b0 b1 b2 b3 y2 BX C1 L1
      generalize w1.drew = w2 at *
      obtain ⟨E, hE⟩ : ∃ E, Es[p]? = some E := ⟨_, List.getElem?_eq_getElem (by rw [HM.out]; exact hp)⟩
      obtain ⟨gW, cW', gQ, cQ, e1, e2, c1, c2, q1, q2, q3, q4, q5, q6, d1, d2⟩ := C2.out.at hE
      rw [HM.out] at e1 e2 c1 c2
      injection e1 with e1 _ e3
      subst e1 e3 e2
      obtain ⟨p1, p2, p3, p4, p5⟩ := C2.out.ent p E hE
      have P1 := Mm.hid (And.intro p1 p2)
      have P3 := Mm.hid p3
      have P4 := Mm.hid p4
      have P5 := Mm.hid p5
      have GQ := Mm.hid (And.intro q1 q2)
      have SG := Mm.hid C2.out.gs
      obtain ⟨b0, b1, b2, b3⟩ := box90 X2.out
      have y2 : w2.cell? ⟨sb, 2, none⟩ = some (.slice (some ⟨gW, 0, none⟩) m cW) := C2.out.scene.cell 2
      have y5 : w2.cell? ⟨sb, 5, none⟩ = some (.slice (some ⟨gQ, 0, none⟩) m cQ) := C2.out.scene.cell 5
      obtain ⟨kG, kB⟩ := C2.out.lkG E.l
      have KB := Mm.hid kB
      have KK := Mm.hid C2.out.kk
      clear kG kB
      clear hE q1 q2 q3 q4 q5 q6 p1 p2 p3 p4 p5
      go_wp2_with fail
      go_region_held3 (fun w' => w'.cell? ⟨sb, 2, none⟩ = some (.slice (some ⟨gW, 0, none⟩) m cW) ∧ w'.cell? ⟨sb, 5, none⟩ = some (.slice (some ⟨gQ, 0, none⟩) m cQ) ∧ w'.cell? ⟨gW, p, none⟩ = some (.pointer (some ⟨E.wb, 0, none⟩)) ∧ w'.cell? ⟨gQ, p, none⟩ = some (.pointer (some ⟨E.qb, 0, none⟩))) (go_keep)
        (first | (go_at_call 51; refine (L2.out.drew.ready a j v X1.out E.wb (lkB l0 l1 E.l) E.W (.inl P1.out.1) (P3.out.keep rfl) (KB.out.keep rfl)).mono ?_; rintro e w3 ⟨rfl, l3, -, k3⟩; have L3 := Mm.hid l3; have K3 : Hid (∀ k, G k → w3.heap[k]? = w2.heap[k]?) := fun k hk => k3 k (.inl hk) (fun h => h); have z2 : w3.cell? ⟨sb, 2, none⟩ = some (.slice (some ⟨gW, 0, none⟩) m cW) := (World.cell?_of_block (K3.out sb SG.out)).trans y2; have z5 : w3.cell? ⟨sb, 5, none⟩ = some (.slice (some ⟨gQ, 0, none⟩) m cQ) := (World.cell?_of_block (K3.out sb SG.out)).trans y5; have z6 : w3.cell? ⟨gW, p, none⟩ = some (.pointer (some ⟨E.wb, 0, none⟩)) := (World.cell?_of_block (K3.out gW GQ.out.1)).trans d1; have z7 : w3.cell? ⟨gQ, p, none⟩ = some (.pointer (some ⟨E.qb, 0, none⟩)) := (World.cell?_of_block (K3.out gQ GQ.out.2)).trans d2; clear l3 k3) | (go_at_call 91; refine (L3.out.rready a j v X1.out E.qb kb E.W P5.out (P4.out.keep (K3.out _ P1.out.2)) (KK.out.keep (K3.out _ C2.out.gk)) LBD.out).mono ?_; rintro e w4 ⟨rfl, l4, -, k4⟩; have L4 := Mm.hid l4; have K4 : Hid (∀ k, G k → w4.heap[k]? = w3.heap[k]?) := fun k hk => k4 k (.inl hk) (fun h => h); have z2 : w4.cell? ⟨sb, 2, none⟩ = some (.slice (some ⟨gW, 0, none⟩) m cW) := (World.cell?_of_block (K4.out sb SG.out)).trans z2; have z5 : w4.cell? ⟨sb, 5, none⟩ = some (.slice (some ⟨gQ, 0, none⟩) m cQ) := (World.cell?_of_block (K4.out sb SG.out)).trans z5; have z6 : w4.cell? ⟨gW, p, none⟩ = some (.pointer (some ⟨E.wb, 0, none⟩)) := (World.cell?_of_block (K4.out gW GQ.out.1)).trans z6; have z7 : w4.cell? ⟨gQ, p, none⟩ = some (.pointer (some ⟨E.qb, 0, none⟩)) := (World.cell?_of_block (K4.out gQ GQ.out.2)).trans z7; clear l4 k4))
      all_goals (
        have FIN : Hid (ScS base g r w0 a (j : Int) sb lL l0 l1 kb n (k + 1) w4) := by
          have hh := HH.out
          exact ⟨G, Es, _, _, S, C2.out.keep (fun k hk => (K4.out k hk).trans (K3.out k hk)), (L4.out.sub fun _ hk => .inl hk).more (Nat.le_succ k), by omega, by omega, by omega, by omega⟩
        clear y2 y5 d1 d2 b0 b1 b2 b3 z2 z5 z6 z7
        go_wp2
        go_ret
        exact ⟨by simp, FIN.out⟩))
set_option maxRecDepth 100000 in
set_option maxHeartbeats 4000000 in
theorem scene_ticket (nn x y : Int) (h : ScS base g r w0 a (j : Int) sb lL l0 l1 kb n k w) (hk : k ≤ 1048576) :
    Calls Try.prog 53 #[.pointer (some ⟨sb, 0, none⟩), .agg #[.int .i64 4, .int .i64 nn, .int .i64 x, .int .i64 y]] w (ScE base g r w0 a (j : Int) sb lL l0 l1 kb n (k + 1)) := by
  obtain ⟨G, Es, vW, vQ, S, h1, h2, h3, h4, h5, h6⟩ := h
  have BX := Mm.hid (Blk.new w #[.int .i64 4, .int .i64 nn, .int .i64 x, .int .i64 y] 90)
  have C1 := Mm.hid (h1.keep (w' := w.alloc (.cells #[.int .i64 4, .int .i64 nn, .int .i64 x, .int .i64 y] 90)) fun k hk => Below.heap_alloc w _ k (h2.lt hk))
  have L1 := Mm.hid (h2.grow (.cells #[.int .i64 4, .int .i64 nn, .int .i64 x, .int .i64 y] 90))
  have HH := Mm.hid (And.intro h3 (And.intro h4 (And.intro h5 h6)))
  obtain ⟨m, hm⟩ : ∃ m, Es.length = m := ⟨_, rfl⟩
  have HM := Mm.hid hm
  have hmk : m ≤ 1048576 := by omega
  have FIN0 : Hid (ScS base g r w0 a (j : Int) sb lL l0 l1 kb n (k + 1) (w.alloc (.cells #[.int .i64 4, .int .i64 nn, .int .i64 x, .int .i64 y] 90))) := ⟨G, Es, vW, vQ, S, C1.out, (L1.out.sub fun _ hk => .inl hk).more (Nat.le_succ k), h3, by omega, by omega, by omega⟩
  clear h1 h2 h3 h4 h5 h6 hm
  have rW := C1.out.rW
  rw [List.length_map, HM.out] at rW
  obtain ⟨A, cW, rfl, hcW, _, _⟩ := own_slice rW
  clear rW
  rcases Nat.eq_zero_or_pos m with rfl | hm0
  · go_enter Try.func53, Try.ntmps53
    go_upto_region 1 with (fail)
    generalize w.alloc (.cells #[.int .i64 4, .int .i64 nn, .int .i64 x, .int .i64 y] 90) = w1 at *
    obtain ⟨b0, b1, b2, b3⟩ := box90 BX.out
    have y2 : w1.cell? ⟨sb, 2, none⟩ = some (.slice A 0 cW) := C1.out.scene.cell 2
    go_wp2
    go_ret
    exact ⟨rfl, FIN0.out⟩
  · clear FIN0
    go_enter Try.func53, Try.ntmps53
    go_upto_region 1 with (fail)
    generalize w.alloc (.cells #[.int .i64 4, .int .i64 nn, .int .i64 x, .int .i64 y] 90) = w1 at *
    obtain ⟨b0, b1, b2, b3⟩ := box90 BX.out
    have y2 : w1.cell? ⟨sb, 2, none⟩ = some (.slice A m cW) := C1.out.scene.cell 2
    go_wp2_with fail
    go_region_held3 (fun w' => w'.cell? ⟨sb, 2, none⟩ = some (.slice A m cW) ∧ w'.cell? ⟨w.heap.size, 1, none⟩ = some (.int .i64 nn)) (go_keep)
      (first | (go_at_call 43; refine (pick17_any nn m _ hm0 (by omega)).mono ?_; rintro e w8 ⟨p, hp, rfl, rfl, -⟩; have z2 : w1.drew.cell? ⟨sb, 2, none⟩ = some (.slice A m cW) := y2; have z1 : w1.drew.cell? ⟨w.heap.size, 1, none⟩ = some (.int .i64 nn) := b1))
    all_goals (
      have C2 : Hid (SC base g r a (j : Int) G sb lL l0 l1 kb Es (Es.map eW) (Es.map eQ) (.slice A m cW) vQ w1.drew) := C1.out.keep fun _ _ => rfl
      have X2 : Hid (Blk w1.drew w.heap.size 90 #[.int .i64 4, .int .i64 nn, .int .i64 x, .int .i64 y]) := BX.out.keep rfl
      have L2 := Mm.hid L1.out.drew
      clear z2 z1 b0 b1 b2 b3 y2 BX C1 L1
      generalize w1.drew = w2 at *
      obtain ⟨E, hE⟩ : ∃ E, Es[p]? = some E := ⟨_, List.getElem?_eq_getElem (by rw [HM.out]; exact hp)⟩
      obtain ⟨gW, cW', gQ, cQ, e1, e2, c1, c2, q1, q2, q3, q4, q5, q6, d1, d2⟩ := C2.out.at hE
      rw [HM.out] at e1 e2 c1 c2
      injection e1 with e1 _ e3
      subst e1 e3 e2
      obtain ⟨p1, p2, p3, p4, p5⟩ := C2.out.ent p E hE
      have P1 := Mm.hid (And.intro p1 p2)
      have P3 := Mm.hid p3
      have P4 := Mm.hid p4
      have P5 := Mm.hid p5
      have GQ := Mm.hid (And.intro q1 q2)
      have SG := Mm.hid C2.out.gs
      obtain ⟨b0, b1, b2, b3⟩ := box90 X2.out
      have y2 : w2.cell? ⟨sb, 2, none⟩ = some (.slice (some ⟨gW, 0, none⟩) m cW) := C2.out.scene.cell 2
      have y5 : w2.cell? ⟨sb, 5, none⟩ = some (.slice (some ⟨gQ, 0, none⟩) m cQ) := C2.out.scene.cell 5
      obtain ⟨t, ht⟩ : ∃ t, (if E.W.drawn then E.W.num else -1) = t := ⟨_, rfl⟩
      have TT := Mm.hid ht
      clear ht
      clear hE q1 q2 q3 q4 q5 q6 p1 p2 p3 p4 p5
      go_wp2_with fail
      go_region_held3 (fun w' => w'.cell? ⟨sb, 2, none⟩ = some (.slice (some ⟨gW, 0, none⟩) m cW) ∧ w'.cell? ⟨sb, 5, none⟩ = some (.slice (some ⟨gQ, 0, none⟩) m cQ) ∧ w'.cell? ⟨gW, p, none⟩ = some (.pointer (some ⟨E.wb, 0, none⟩)) ∧ w'.cell? ⟨gQ, p, none⟩ = some (.pointer (some ⟨E.qb, 0, none⟩))) (go_keep)
        (first | (go_at_call 47; refine (ticket_any E.wb (lkB l0 l1 E.l) E.W t TT.out w2.drew (by exact P3.out.keep rfl)).mono ?_; rintro e w3 ⟨rfl, rfl⟩; have K3 : Hid (∀ k, G k → w2.drew.heap[k]? = w2.heap[k]?) := fun _ _ => rfl; have z2 : w2.drew.cell? ⟨sb, 2, none⟩ = some (.slice (some ⟨gW, 0, none⟩) m cW) := (World.cell?_of_block (K3.out sb SG.out)).trans y2; have z5 : w2.drew.cell? ⟨sb, 5, none⟩ = some (.slice (some ⟨gQ, 0, none⟩) m cQ) := (World.cell?_of_block (K3.out sb SG.out)).trans y5; have z6 : w2.drew.cell? ⟨gW, p, none⟩ = some (.pointer (some ⟨E.wb, 0, none⟩)) := (World.cell?_of_block (K3.out gW GQ.out.1)).trans d1; have z7 : w2.drew.cell? ⟨gQ, p, none⟩ = some (.pointer (some ⟨E.qb, 0, none⟩)) := (World.cell?_of_block (K3.out gQ GQ.out.2)).trans d2;) | (go_at_call 92; refine (rticket_any E.qb kb E.W P5.out t TT.out w2.drew (by exact P4.out.keep rfl)).mono ?_; rintro e w3 ⟨rfl, rfl⟩; have K4 : Hid (∀ k, G k → w2.drew.heap[k]? = w2.drew.heap[k]?) := fun _ _ => rfl; have z2 : w2.drew.cell? ⟨sb, 2, none⟩ = some (.slice (some ⟨gW, 0, none⟩) m cW) := (World.cell?_of_block (K4.out sb SG.out)).trans z2; have z5 : w2.drew.cell? ⟨sb, 5, none⟩ = some (.slice (some ⟨gQ, 0, none⟩) m cQ) := (World.cell?_of_block (K4.out sb SG.out)).trans z5; have z6 : w2.drew.cell? ⟨gW, p, none⟩ = some (.pointer (some ⟨E.wb, 0, none⟩)) := (World.cell?_of_block (K4.out gW GQ.out.1)).trans z6; have z7 : w2.drew.cell? ⟨gQ, p, none⟩ = some (.pointer (some ⟨E.qb, 0, none⟩)) := (World.cell?_of_block (K4.out gQ GQ.out.2)).trans z7;))
      all_goals (
        have FIN : Hid (ScS base g r w0 a (j : Int) sb lL l0 l1 kb n (k + 1) w2.drew) := by
          have hh := HH.out
          exact ⟨G, Es, _, _, S, C2.out.keep (fun _ _ => rfl), (L2.out.drew.sub fun _ hk => .inl hk).more (Nat.le_succ k), by omega, by omega, by omega, by omega⟩
        clear y2 y5 d1 d2 b0 b1 b2 b3 z2 z5 z6 z7
        go_wp2
        go_ret
        exact ⟨by simp, FIN.out⟩))
end
end Go.Proofs.Ytkbobgblohohcaa

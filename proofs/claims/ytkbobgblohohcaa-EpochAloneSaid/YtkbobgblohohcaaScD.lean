/- Walks: the scene: the memory is written, poisoned, cleared (printed by gen_scd.py). -/
import Derived.Test.YtkbobgblohohcaaScC
import Derived.Test.YtkbobgblohohcaaRefD
namespace Go.Proofs.Ytkbobgblohohcaa
open Go.RowKit Go.Mm Go.Cells
theorem box90 {W : World} {xb : Nat} {d n x y : Int} (h : Blk W xb 90 #[.int .i64 d, .int .i64 n, .int .i64 x, .int .i64 y]) : W.cell? ⟨xb, 0, none⟩ = some (.int .i64 d) ∧ W.cell? ⟨xb, 1, none⟩ = some (.int .i64 n) ∧ W.cell? ⟨xb, 2, none⟩ = some (.int .i64 x) ∧ W.cell? ⟨xb, 3, none⟩ = some (.int .i64 y) := ⟨h.cell 0, h.cell 1, h.cell 2, h.cell 3⟩
section
variable {base g r sb lL l0 l1 kb n k : Nat} {w0 w : World} {a b : Int}
set_option maxRecDepth 100000 in
set_option maxHeartbeats 4000000 in
theorem scene_store (nn x y : Int) (h : ScS base g r w0 a b sb lL l0 l1 kb n k w) (hk : k ≤ 1048576) :
    Calls Try.prog 53 #[.pointer (some ⟨sb, 0, none⟩), .agg #[.int .i64 6, .int .i64 nn, .int .i64 x, .int .i64 y]] w (ScE base g r w0 a b sb lL l0 l1 kb n (k + 1)) := by
  obtain ⟨G, Es, vW, vQ, S, h1, h2, h3, h4, h5, h6⟩ := h
  have BX := Mm.hid (Blk.new w #[.int .i64 6, .int .i64 nn, .int .i64 x, .int .i64 y] 90)
  have C1 := Mm.hid (h1.keep (w' := w.alloc (.cells #[.int .i64 6, .int .i64 nn, .int .i64 x, .int .i64 y] 90)) fun k hk => Below.heap_alloc w _ k (h2.lt hk))
  have L1 := Mm.hid (h2.grow (.cells #[.int .i64 6, .int .i64 nn, .int .i64 x, .int .i64 y] 90))
  have HB : Hid (S.bad ≤ 4611686018427387904) := Mm.hid (by omega)
  have HN : Hid ((S.tr.length + 1) * 40 ≤ 140737488355328) := Mm.hid (by omega)
  have LBD : Hid ((k + 1) * 24 ≤ 140737488355328) := Mm.hid (by omega)
  have OP := Mm.hid ((op_le S x y 0).2.1)
  have HH := Mm.hid (And.intro h3 (And.intro h4 (And.intro h5 h6)))
  clear h1 h2 h3 h4 h5 h6
  go_enter Try.func53, Try.ntmps53
  go_upto_region 1 with (fail)
  generalize w.alloc (.cells #[.int .i64 6, .int .i64 nn, .int .i64 x, .int .i64 y] 90) = w1 at *
  obtain ⟨b0, b1, b2, b3⟩ := box90 BX.out
  have y0 : w1.cell? ⟨sb, 0, none⟩ = some (.pointer (some ⟨g, 0, none⟩)) := C1.out.scene.cell 0
  have y3 : w1.cell? ⟨sb, 3, none⟩ = some (.pointer (some ⟨r, 0, none⟩)) := C1.out.scene.cell 3
  have L1d : Hid (LB base g r k w0 (fun k => G k ∨ k = w.heap.size) S S w1.drew) := L1.out.drew
  go_wp2_with fail
  go_region_held3 (fun w' => w'.cell? ⟨sb, 0, none⟩ = some (.pointer (some ⟨g, 0, none⟩)) ∧ w'.cell? ⟨sb, 3, none⟩ = some (.pointer (some ⟨r, 0, none⟩)) ∧ w'.cell? ⟨w.heap.size, 2, none⟩ = some (.int .i64 x) ∧ w'.cell? ⟨w.heap.size, 3, none⟩ = some (.int .i64 y)) (go_keep)
    (first | (go_at_call 20; refine (L1d.out.mop fun F m1 m2 => store_any base g F S x _ y m1 m2 HB.out HN.out).mono ?_; rintro e w2 ⟨rfl, l2, -, k2⟩; have L2 := Mm.hid l2; have K2 : Hid (∀ k, G k → w2.heap[k]? = w1.heap[k]?) := fun k hk => k2 k (.inl hk) (fun h => h); have X2 := Mm.hid (BX.out.keep (w' := w2) (k2 _ (.inr rfl) (fun h => h))); have z2 := (box90 X2.out).2.2.1; have z3 := (box90 X2.out).2.2.2; have q0 : w2.cell? ⟨sb, 0, none⟩ = some (.pointer (some ⟨g, 0, none⟩)) := (C1.out.keep K2.out).scene.cell 0; have q3 : w2.cell? ⟨sb, 3, none⟩ = some (.pointer (some ⟨r, 0, none⟩)) := (C1.out.keep K2.out).scene.cell 3; clear l2 k2) | (go_at_call 89; refine (L2.out.rop fun F m1 m2 => rstore_any x y m1 m2 HB.out HN.out LBD.out).mono ?_; rintro e w3 ⟨rfl, l3, -, k3⟩; have L3 := Mm.hid l3; have K3 : Hid (∀ k, G k → w3.heap[k]? = w1.heap[k]?) := fun k hk => (k3 k (.inl hk) (fun h => h)).trans (K2.out k hk); have X3 := Mm.hid (X2.out.keep (w' := w3) (k3 _ (.inr rfl) (fun h => h))); have z2 := (box90 X3.out).2.2.1; have z3 := (box90 X3.out).2.2.2; have q0 : w3.cell? ⟨sb, 0, none⟩ = some (.pointer (some ⟨g, 0, none⟩)) := (C1.out.keep K3.out).scene.cell 0; have q3 : w3.cell? ⟨sb, 3, none⟩ = some (.pointer (some ⟨r, 0, none⟩)) := (C1.out.keep K3.out).scene.cell 3; clear l3 k3))
  all_goals go_wp2
  all_goals go_ret
  all_goals exact ⟨by simp, G, Es, vW, vQ, _, C1.out.keep K3.out, L3.out.sub fun k hk => .inl hk, by have := OP.out; have := HH.out; omega, by have := OP.out; have := HH.out; omega, by have := OP.out; have := HH.out; omega, by have := HH.out; omega⟩
set_option maxRecDepth 100000 in
set_option maxHeartbeats 4000000 in
theorem scene_poison (nn x y : Int) (h : ScS base g r w0 a b sb lL l0 l1 kb n k w) (hk : k ≤ 1048576) :
    Calls Try.prog 53 #[.pointer (some ⟨sb, 0, none⟩), .agg #[.int .i64 7, .int .i64 nn, .int .i64 x, .int .i64 y]] w (ScE base g r w0 a b sb lL l0 l1 kb n (k + 1)) := by
  obtain ⟨G, Es, vW, vQ, S, h1, h2, h3, h4, h5, h6⟩ := h
  have BX := Mm.hid (Blk.new w #[.int .i64 7, .int .i64 nn, .int .i64 x, .int .i64 y] 90)
  have C1 := Mm.hid (h1.keep (w' := w.alloc (.cells #[.int .i64 7, .int .i64 nn, .int .i64 x, .int .i64 y] 90)) fun k hk => Below.heap_alloc w _ k (h2.lt hk))
  have L1 := Mm.hid (h2.grow (.cells #[.int .i64 7, .int .i64 nn, .int .i64 x, .int .i64 y] 90))
  have HB : Hid (S.bad ≤ 4611686018427387904) := Mm.hid (by omega)
  have HN : Hid ((S.tr.length + 1) * 40 ≤ 140737488355328) := Mm.hid (by omega)
  have LBD : Hid ((k + 1) * 24 ≤ 140737488355328) := Mm.hid (by omega)
  have OP := Mm.hid (show (S.fill x 1 poison).tr.length ≤ S.tr.length + 1 ∧ (S.fill x 1 poison).bad ≤ S.bad + 1 ∧ (S.fill x 1 poison).ws.length = S.ws.length from by obtain ⟨f1, f2, f3⟩ := fill_tr S x 1 poison; rw [f1, f2, f3]; omega)
  have HH := Mm.hid (And.intro h3 (And.intro h4 (And.intro h5 h6)))
  clear h1 h2 h3 h4 h5 h6
  go_enter Try.func53, Try.ntmps53
  go_upto_region 1 with (fail)
  generalize w.alloc (.cells #[.int .i64 7, .int .i64 nn, .int .i64 x, .int .i64 y] 90) = w1 at *
  obtain ⟨b0, b1, b2, b3⟩ := box90 BX.out
  have y0 : w1.cell? ⟨sb, 0, none⟩ = some (.pointer (some ⟨g, 0, none⟩)) := C1.out.scene.cell 0
  have y3 : w1.cell? ⟨sb, 3, none⟩ = some (.pointer (some ⟨r, 0, none⟩)) := C1.out.scene.cell 3
  have L1d : Hid (LB base g r k w0 (fun k => G k ∨ k = w.heap.size) S S w1.drew) := L1.out.drew
  go_wp2_with fail
  go_region_held3 (fun w' => w'.cell? ⟨sb, 0, none⟩ = some (.pointer (some ⟨g, 0, none⟩)) ∧ w'.cell? ⟨sb, 3, none⟩ = some (.pointer (some ⟨r, 0, none⟩)) ∧ w'.cell? ⟨w.heap.size, 2, none⟩ = some (.int .i64 x)) (go_keep)
    (first | (go_at_call 29; refine (L1d.out.mop fun F m1 m2 => (poison_any base g F S x 1 _ m1 (by decide)).mono fun _ _ h => fill_op h).mono ?_; rintro e w2 ⟨rfl, l2, -, k2⟩; have L2 := Mm.hid l2; have K2 : Hid (∀ k, G k → w2.heap[k]? = w1.heap[k]?) := fun k hk => k2 k (.inl hk) (fun h => h); have X2 := Mm.hid (BX.out.keep (w' := w2) (k2 _ (.inr rfl) (fun h => h))); have z2 := (box90 X2.out).2.2.1; have q0 : w2.cell? ⟨sb, 0, none⟩ = some (.pointer (some ⟨g, 0, none⟩)) := (C1.out.keep K2.out).scene.cell 0; have q3 : w2.cell? ⟨sb, 3, none⟩ = some (.pointer (some ⟨r, 0, none⟩)) := (C1.out.keep K2.out).scene.cell 3; clear l2 k2) | (go_at_call 80; refine (L2.out.rop fun F m1 m2 => rpoison_any x 1 m1 (by decide) m2 LBD.out).mono ?_; rintro e w3 ⟨rfl, l3, -, k3⟩; have L3 := Mm.hid l3; have K3 : Hid (∀ k, G k → w3.heap[k]? = w1.heap[k]?) := fun k hk => (k3 k (.inl hk) (fun h => h)).trans (K2.out k hk); have X3 := Mm.hid (X2.out.keep (w' := w3) (k3 _ (.inr rfl) (fun h => h))); have z2 := (box90 X3.out).2.2.1; have q0 : w3.cell? ⟨sb, 0, none⟩ = some (.pointer (some ⟨g, 0, none⟩)) := (C1.out.keep K3.out).scene.cell 0; have q3 : w3.cell? ⟨sb, 3, none⟩ = some (.pointer (some ⟨r, 0, none⟩)) := (C1.out.keep K3.out).scene.cell 3; clear l3 k3))
  all_goals go_wp2
  all_goals go_ret
  all_goals exact ⟨by simp, G, Es, vW, vQ, _, C1.out.keep K3.out, L3.out.sub fun k hk => .inl hk, by have := OP.out; have := HH.out; omega, by have := OP.out; have := HH.out; omega, by have := OP.out; have := HH.out; omega, by have := HH.out; omega⟩
set_option maxRecDepth 100000 in
set_option maxHeartbeats 4000000 in
theorem scene_clear (nn x y : Int) (h : ScS base g r w0 a b sb lL l0 l1 kb n k w) (hk : k ≤ 1048576) :
    Calls Try.prog 53 #[.pointer (some ⟨sb, 0, none⟩), .agg #[.int .i64 8, .int .i64 nn, .int .i64 x, .int .i64 y]] w (ScE base g r w0 a b sb lL l0 l1 kb n (k + 1)) := by
  obtain ⟨G, Es, vW, vQ, S, h1, h2, h3, h4, h5, h6⟩ := h
  have BX := Mm.hid (Blk.new w #[.int .i64 8, .int .i64 nn, .int .i64 x, .int .i64 y] 90)
  have C1 := Mm.hid (h1.keep (w' := w.alloc (.cells #[.int .i64 8, .int .i64 nn, .int .i64 x, .int .i64 y] 90)) fun k hk => Below.heap_alloc w _ k (h2.lt hk))
  have L1 := Mm.hid (h2.grow (.cells #[.int .i64 8, .int .i64 nn, .int .i64 x, .int .i64 y] 90))
  have HB : Hid (S.bad ≤ 4611686018427387904) := Mm.hid (by omega)
  have HN : Hid ((S.tr.length + 1) * 40 ≤ 140737488355328) := Mm.hid (by omega)
  have LBD : Hid ((k + 1) * 24 ≤ 140737488355328) := Mm.hid (by omega)
  have OP := Mm.hid (show (S.fill x 1 0).tr.length ≤ S.tr.length + 1 ∧ (S.fill x 1 0).bad ≤ S.bad + 1 ∧ (S.fill x 1 0).ws.length = S.ws.length from by obtain ⟨f1, f2, f3⟩ := fill_tr S x 1 0; rw [f1, f2, f3]; omega)
  have HH := Mm.hid (And.intro h3 (And.intro h4 (And.intro h5 h6)))
  clear h1 h2 h3 h4 h5 h6
  go_enter Try.func53, Try.ntmps53
  go_upto_region 1 with (fail)
  generalize w.alloc (.cells #[.int .i64 8, .int .i64 nn, .int .i64 x, .int .i64 y] 90) = w1 at *
  obtain ⟨b0, b1, b2, b3⟩ := box90 BX.out
  have y0 : w1.cell? ⟨sb, 0, none⟩ = some (.pointer (some ⟨g, 0, none⟩)) := C1.out.scene.cell 0
  have y3 : w1.cell? ⟨sb, 3, none⟩ = some (.pointer (some ⟨r, 0, none⟩)) := C1.out.scene.cell 3
  have L1d : Hid (LB base g r k w0 (fun k => G k ∨ k = w.heap.size) S S w1.drew) := L1.out.drew
  go_wp2_with fail
  go_region_held3 (fun w' => w'.cell? ⟨sb, 0, none⟩ = some (.pointer (some ⟨g, 0, none⟩)) ∧ w'.cell? ⟨sb, 3, none⟩ = some (.pointer (some ⟨r, 0, none⟩)) ∧ w'.cell? ⟨w.heap.size, 2, none⟩ = some (.int .i64 x)) (go_keep)
    (first | (go_at_call 28; refine (L1d.out.mop fun F m1 m2 => (clear_any base g F S x 1 _ m1 (by decide)).mono fun _ _ h => fill_op h).mono ?_; rintro e w2 ⟨rfl, l2, -, k2⟩; have L2 := Mm.hid l2; have K2 : Hid (∀ k, G k → w2.heap[k]? = w1.heap[k]?) := fun k hk => k2 k (.inl hk) (fun h => h); have X2 := Mm.hid (BX.out.keep (w' := w2) (k2 _ (.inr rfl) (fun h => h))); have z2 := (box90 X2.out).2.2.1; have q0 : w2.cell? ⟨sb, 0, none⟩ = some (.pointer (some ⟨g, 0, none⟩)) := (C1.out.keep K2.out).scene.cell 0; have q3 : w2.cell? ⟨sb, 3, none⟩ = some (.pointer (some ⟨r, 0, none⟩)) := (C1.out.keep K2.out).scene.cell 3; clear l2 k2) | (go_at_call 81; refine (L2.out.rop fun F m1 m2 => rclear_any x 1 m1 (by decide) m2 LBD.out).mono ?_; rintro e w3 ⟨rfl, l3, -, k3⟩; have L3 := Mm.hid l3; have K3 : Hid (∀ k, G k → w3.heap[k]? = w1.heap[k]?) := fun k hk => (k3 k (.inl hk) (fun h => h)).trans (K2.out k hk); have X3 := Mm.hid (X2.out.keep (w' := w3) (k3 _ (.inr rfl) (fun h => h))); have z2 := (box90 X3.out).2.2.1; have q0 : w3.cell? ⟨sb, 0, none⟩ = some (.pointer (some ⟨g, 0, none⟩)) := (C1.out.keep K3.out).scene.cell 0; have q3 : w3.cell? ⟨sb, 3, none⟩ = some (.pointer (some ⟨r, 0, none⟩)) := (C1.out.keep K3.out).scene.cell 3; clear l3 k3))
  all_goals go_wp2
  all_goals go_ret
  all_goals exact ⟨by simp, G, Es, vW, vQ, _, C1.out.keep K3.out, L3.out.sub fun k hk => .inl hk, by have := OP.out; have := HH.out; omega, by have := OP.out; have := HH.out; omega, by have := OP.out; have := HH.out; omega, by have := HH.out; omega⟩
end
end Go.Proofs.Ytkbobgblohohcaa

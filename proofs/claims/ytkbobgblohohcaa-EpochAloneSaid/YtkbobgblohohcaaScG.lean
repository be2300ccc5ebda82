/- Walks: the scene: the lock is left; a waiter comes; nothing. -/
import Derived.Test.YtkbobgblohohcaaScF
import Derived.Deep.DrawnRows
namespace Go.Proofs.Ytkbobgblohohcaa
open Go.RowKit Go.Mm Go.Cells
theorem pick2_at (x : Int) : ∃ p : Nat, p < 2 ∧ ∀ w : World, Calls Try.prog 43 #[.int .i64 x, .int .i64 2] w fun e w' => e = .returned (.int .i64 (p : Int)) ∧ w = w' := by
  have h0 := Int.emod_nonneg x (show (2 : Int) ≠ 0 by decide)
  have h1 := Int.emod_lt_of_pos x (show (0 : Int) < 2 by decide)
  refine ⟨(x % 2).toNat, by omega, fun w => (pick17_any x 2 w (by decide) (by decide)).mono ?_⟩
  rintro e w' ⟨p, _, rfl, rfl, hp⟩
  have hp' : (p : Int) = x % 2 := hp
  have : (x % 2).toNat = p := by omega
  rw [this]
  exact ⟨rfl, rfl⟩
theorem enter_at (lk wb : Nat) (w : World) (h : w.heap.size = wb) : Calls Try.prog 45 #[.pointer (some ⟨lk, 0, none⟩)] w fun e w' => e = .returned (.pointer (some ⟨wb, 0, none⟩)) ∧ Blk w' wb 150 #[.pointer (some ⟨lk, 0, none⟩), .int .i64 0, .bool false, .bool false] ∧ Below w.heap.size w w' ∧ w'.heap.size = wb + 1 := by
  subst h
  refine (enter_any lk w).mono ?_
  rintro e w' ⟨rfl, rfl⟩
  exact ⟨rfl, Blk.new w _ _, (Below.refl _ _).alloc (Nat.le_refl _) _, by simp⟩
theorem renter_at (kb qb : Nat) (w : World) (h : w.heap.size = qb) : Calls Try.prog 87 #[.pointer (some ⟨kb, 0, none⟩)] w fun e w' => e = .returned (.pointer (some ⟨qb, 0, none⟩)) ∧ Blk w' qb 177 #[.pointer (some ⟨kb, 0, none⟩), .int .i64 0, .int .i64 0] ∧ Below w.heap.size w w' ∧ w'.heap.size = qb + 1 := by
  subst h
  refine (renter_any kb w).mono ?_
  rintro e w' ⟨rfl, rfl⟩
  exact ⟨rfl, Blk.new w _ _, (Below.refl _ _).alloc (Nat.le_refl _) _, by simp⟩
theorem k4_of {v v1 : Value} {n : Nat} {P : Nat → Prop} (h : v1.ownBlock = v.ownBlock ∨ ∃ b, v1.ownBlock = some b ∧ n ≤ b ∧ P b) : ∀ k, v1.ownBlock = some k → v.ownBlock = some k ∨ n ≤ k := by
  intro k hk
  rcases h with h | ⟨b, h, hb, _⟩
  · exact .inl (h ▸ hk)
  · rw [hk] at h; injection h with h; exact .inr (h ▸ hb)
theorem k4_of' {v v1 : Value} {n m : Nat} (h : v1.ownBlock = v.ownBlock ∨ v1.ownBlock = some n) (hm : m ≤ n) : ∀ k, v1.ownBlock = some k → v.ownBlock = some k ∨ m ≤ k := by
  intro k hk
  rcases h with h | h
  · exact .inl (h ▸ hk)
  · rw [hk] at h; injection h with h; exact .inr (h ▸ hm)
section
variable {base g r sb lL l0 l1 kb n k : Nat} {w0 w : World} {a b : Int} {j : Nat}
set_option maxRecDepth 100000 in
set_option maxHeartbeats 4000000 in
theorem scene_leave (nn x y : Int) (h : ScS base g r w0 a b sb lL l0 l1 kb n k w) (hk : k ≤ 1048576) :
    Calls Try.prog 53 #[.pointer (some ⟨sb, 0, none⟩), .agg #[.int .i64 5, .int .i64 nn, .int .i64 x, .int .i64 y]] w (ScE base g r w0 a b sb lL l0 l1 kb n (k + 1)) := by
  obtain ⟨G, Es, vW, vQ, S, h1, h2, h3, h4, h5, h6⟩ := h
  have BX := Mm.hid (Blk.new w #[.int .i64 5, .int .i64 nn, .int .i64 x, .int .i64 y] 90)
  have C1 := Mm.hid (h1.keep (w' := w.alloc (.cells #[.int .i64 5, .int .i64 nn, .int .i64 x, .int .i64 y] 90)) fun k hk => Below.heap_alloc w _ k (h2.lt hk))
  have L1 := Mm.hid (h2.grow (.cells #[.int .i64 5, .int .i64 nn, .int .i64 x, .int .i64 y] 90))
  have HB : Hid (S.bad ≤ 4611686018427387904) := Mm.hid (by omega)
  have HN : Hid ((S.tr.length + 1) * 40 ≤ 140737488355328) := Mm.hid (by omega)
  have LBD : Hid ((k + 1) * 24 ≤ 140737488355328) := Mm.hid (by omega)
  have HH := Mm.hid (And.intro h3 (And.intro h4 (And.intro h5 h6)))
  have OP := Mm.hid (op_le S b 1 0).2.2.2
  obtain ⟨p, hp, pk⟩ := pick2_at nn
  have PK := Mm.hid pk
  clear h1 h2 h3 h4 h5 h6 pk
  go_enter Try.func53, Try.ntmps53
  go_upto_region 1 with (fail)
  generalize w.alloc (.cells #[.int .i64 5, .int .i64 nn, .int .i64 x, .int .i64 y] 90) = w1 at *
  obtain ⟨b0, b1, b2, b3⟩ := box90 BX.out
  have y1 : w1.cell? ⟨sb, 1, none⟩ = some (.slice (some ⟨lL, 0, none⟩) 2 2) := C1.out.scene.cell 1
  have y4 : w1.cell? ⟨sb, 4, none⟩ = some (.pointer (some ⟨kb, 0, none⟩)) := C1.out.scene.cell 4
  have e1 : w1.cell? ⟨lL, p, none⟩ = some (.pointer (some ⟨lkB l0 l1 p, 0, none⟩)) := C1.out.lock hp
  have hp0 : (0 : Int) ≤ (p : Int) := by omega
  have hp2 : (p : Int) < 2 := by omega
  go_wp2_with fail
  go_region_held3 (fun w' => w'.cell? ⟨sb, 1, none⟩ = some (.slice (some ⟨lL, 0, none⟩) 2 2) ∧ w'.cell? ⟨sb, 4, none⟩ = some (.pointer (some ⟨kb, 0, none⟩)) ∧ w'.cell? ⟨w.heap.size, 1, none⟩ = some (.int .i64 nn) ∧ w'.cell? ⟨lL, p, none⟩ = some (.pointer (some ⟨lkB l0 l1 p, 0, none⟩))) (go_keep)
    (first | (go_at_call 43; refine (PK.out _).mono ?_; rintro e w8 ⟨rfl, rfl⟩; have z1 : w1.drew.cell? ⟨sb, 1, none⟩ = some (.slice (some ⟨lL, 0, none⟩) 2 2) := y1; have z4 : w1.drew.cell? ⟨sb, 4, none⟩ = some (.pointer (some ⟨kb, 0, none⟩)) := y4; have z5 : w1.drew.cell? ⟨w.heap.size, 1, none⟩ = some (.int .i64 nn) := b1; have z6 : w1.drew.cell? ⟨lL, p, none⟩ = some (.pointer (some ⟨lkB l0 l1 p, 0, none⟩)) := e1) | (go_at_call 52; refine (L1.out.drew.leave a b (lkB l0 l1 p) ((C1.out.lkG p).2.keep rfl) HB.out HN.out).mono ?_; rintro e w3 ⟨rfl, l3, -, k3⟩; have L3 := Mm.hid l3; have K3 : Hid (∀ k, G k → w3.heap[k]? = w1.heap[k]?) := fun k hk => k3 k (.inl hk) (fun h => h); have C3 := Mm.hid (C1.out.keep K3.out); have X3 := Mm.hid (BX.out.keep (w' := w3) (k3 _ (.inr rfl) (fun h => h))); have z1 : w3.cell? ⟨sb, 1, none⟩ = some (.slice (some ⟨lL, 0, none⟩) 2 2) := C3.out.scene.cell 1; have z4 : w3.cell? ⟨sb, 4, none⟩ = some (.pointer (some ⟨kb, 0, none⟩)) := C3.out.scene.cell 4; have z5 : w3.cell? ⟨w.heap.size, 1, none⟩ = some (.int .i64 nn) := X3.out.cell 1; have z6 : w3.cell? ⟨lL, p, none⟩ = some (.pointer (some ⟨lkB l0 l1 p, 0, none⟩)) := C3.out.lock hp; clear l3 k3) | (go_at_call 88; refine (L3.out.rleave a b kb C3.out.kk HB.out HN.out LBD.out).mono ?_; rintro e w4 ⟨rfl, l4, -, k4⟩; have L4 := Mm.hid l4; have K4 : Hid (∀ k, G k → w4.heap[k]? = w3.heap[k]?) := fun k hk => k4 k (.inl hk) (fun h => h); have C4 := Mm.hid (C3.out.keep K4.out); have X4 := Mm.hid (X3.out.keep (w' := w4) (k4 _ (.inr rfl) (fun h => h))); have z1 : w4.cell? ⟨sb, 1, none⟩ = some (.slice (some ⟨lL, 0, none⟩) 2 2) := C4.out.scene.cell 1; have z4 : w4.cell? ⟨sb, 4, none⟩ = some (.pointer (some ⟨kb, 0, none⟩)) := C4.out.scene.cell 4; have z5 : w4.cell? ⟨w.heap.size, 1, none⟩ = some (.int .i64 nn) := X4.out.cell 1; have z6 : w4.cell? ⟨lL, p, none⟩ = some (.pointer (some ⟨lkB l0 l1 p, 0, none⟩)) := C4.out.lock hp; clear l4 k4))
  all_goals (
    have FIN : Hid (ScS base g r w0 a b sb lL l0 l1 kb n (k + 1) w4) := by
      have hh := HH.out
      have hl := OP.out
      exact ⟨G, Es, vW, vQ, _, C4.out, L4.out.sub fun _ hk => .inl hk, by omega, by omega, by omega, by omega⟩
    clear z1 z4 z5 z6 y1 y4 e1 b0 b1 b2 b3
    go_wp2
    go_ret
    exact ⟨by simp, FIN.out⟩)
theorem come_fin {G : Nat → Prop} {Es : List En} {vW vQ v1 : Value} {S : Cm} {w8 w9 w10 : World} {wb qb m p : Nat} {cs : Array Value} (C8 : SC base g r a b G sb lL l0 l1 kb Es (Es.map eW ++ [.pointer (some ⟨wb, 0, none⟩)]) (Es.map eQ) vW vQ w8) (L8 : LB base g r k w0 (fun k => G k ∨ k = wb) S S w8) (hm : Es.length = m)
    (hh : S.ws.length = n ∧ S.tr.length ≤ k ∧ S.bad ≤ k ∧ Es.length ≤ k) (BW : Blk w8 wb 150 #[.pointer (some ⟨lkB l0 l1 p, 0, none⟩), .int .i64 0, .bool false, .bool false]) (nwb : ∀ (i : Nat) (E' : En), Es[i]? = some E' → E'.wb ≠ wb) (q8 : w8.heap.size = qb) (F9 : Below w8.heap.size w8 w9) (BQ : Blk w9 qb 177 #[.pointer (some ⟨kb, 0, none⟩), .int .i64 0, .int .i64 0]) (s9 : w9.heap.size = qb + 1)
    (K1 : w10.ownsRow base 154 1 v1 (m + 1) (Es.map eQ ++ [.pointer (some ⟨qb, 0, none⟩)])) (K3 : (w9.alloc (.cells cs 154)).grownBy w10 vQ.ownBlock) (K4 : ∀ k, v1.ownBlock = some k → vQ.ownBlock = some k ∨ (w9.alloc (.cells cs 154)).heap.size ≤ k) :
    ScS base g r w0 a b sb lL l0 l1 kb n (k + 1) (w10.setCell ⟨sb, 5, none⟩ v1) := by
  have fb : Fr (fun _ => False) w8 (w9.alloc (.cells cs 154)) := (Fr.of_below F9).trans (Fr.alloc (fun _ => False) w9 _) fun _ _ h => h
  have Cb := C8.keep (w' := w9.alloc (.cells cs 154)) fun k hk => fb.block k (L8.lt (.inl hk)) fun h => h
  have Lb := (L8.fresh fb fun _ h => h.elim)
  obtain ⟨c10, f10⟩ := Cb.pushQ (u := .pointer (some ⟨qb, 0, none⟩)) (by rw [List.length_map, hm]; exact K1) K3 K4
  have L10 := Lb.fresh f10 fun k hk => hk.elim (fun e => .inl (.inl (C8.gQ k e))) fun e => .inl (.inl (e ▸ C8.gs))
  have hsz : (w10.setCell ⟨sb, 5, none⟩ v1).heap.size = w10.heap.size := by simp [World.setCell]
  have hbs : (w9.alloc (.cells cs 154)).heap.size = qb + 2 := by simp [s9]
  have ne : ∀ {b t : Nat} {cs' : Array Value}, Blk (w9.alloc (.cells cs 154)) b t cs' → t ≠ 154 → t ≠ 87 → Blk (w10.setCell ⟨sb, 5, none⟩ v1) b t cs' := fun hb n1 n2 => f10.blk hb fun e => e.elim (fun e => own_ne Cb.rQ hb n1 e) fun e => blk_ne hb Cb.scene n2 e
  have W10 := ne (fb.blk BW fun h => h) (by decide) (by decide)
  have Q10 := ne (BQ.keep (Below.heap_alloc w9 _ _ BQ.lt)) (by decide) (by decide)
  have eW' : (Es ++ [(⟨wb, qb, p, ⟨0, false, false⟩⟩ : En)]).map eW = Es.map eW ++ [.pointer (some ⟨wb, 0, none⟩)] := by rw [List.map_append]; rfl
  have eQ' : (Es ++ [(⟨wb, qb, p, ⟨0, false, false⟩⟩ : En)]).map eQ = Es.map eQ ++ [.pointer (some ⟨qb, 0, none⟩)] := by rw [List.map_append]; rfl
  refine ⟨_, Es ++ [⟨wb, qb, p, ⟨0, false, false⟩⟩], vW, v1, S, ?_, L10.more (Nat.le_succ k), hh.1, by omega, by omega, by simp; omega⟩
  rw [eW', eQ']
  refine (c10.grow fun k hk => ?_).come (E := ⟨wb, qb, p, ⟨0, false, false⟩⟩) ?_ ?_ W10 Q10 (fun h => by cases h) fun i E' hi => ⟨nwb i E' hi, fun e => ?_⟩
  · rcases hk with h | h
    · exact .inl (.inl (.inl h))
    · exact .inr (by rw [hsz]; exact h)
  · exact .inl (.inl (.inr rfl))
  · exact .inl (.inr ⟨by show w8.heap.size ≤ qb; omega, by show qb < _; omega⟩)
  · have := L8.lt (.inl (C8.ent i E' hi).2.1)
    have e : E'.qb = qb := e
    omega
attribute [local go_sem ↓] Go.wp_at_zero Go.wp_at_succ
set_option maxRecDepth 100000 in
set_option maxHeartbeats 4000000 in
theorem scene_enter (nn x y : Int) (h : ScS base g r w0 a b sb lL l0 l1 kb n k w) (hk : k ≤ 1048576) :
    Calls Try.prog 53 #[.pointer (some ⟨sb, 0, none⟩), .agg #[.int .i64 1, .int .i64 nn, .int .i64 x, .int .i64 y]] w (ScE base g r w0 a b sb lL l0 l1 kb n (k + 1)) := by
  obtain ⟨G, Es, vW, vQ, S, h1, h2, h3, h4, h5, h6⟩ := h
  have BX := Mm.hid (Blk.new w #[.int .i64 1, .int .i64 nn, .int .i64 x, .int .i64 y] 90)
  have C1 := Mm.hid (h1.keep (w' := w.alloc (.cells #[.int .i64 1, .int .i64 nn, .int .i64 x, .int .i64 y] 90)) fun k hk => Below.heap_alloc w _ k (h2.lt hk))
  have L1 := Mm.hid ((h2.grow (.cells #[.int .i64 1, .int .i64 nn, .int .i64 x, .int .i64 y] 90)).sub (G := G) fun _ h => .inl h)
  have HH := Mm.hid (And.intro h3 (And.intro h4 (And.intro h5 h6)))
  obtain ⟨p, hp, pk⟩ := pick2_at nn
  have PK := Mm.hid pk
  obtain ⟨m, hm⟩ : ∃ m, Es.length = m := ⟨_, rfl⟩
  have HM := Mm.hid hm
  have HL : Hid ((m + 1) * 8 ≤ 140737488355328) := Mm.hid (by omega)
  have rW := C1.out.rW
  have rQ := C1.out.rQ
  rw [List.length_map, hm] at rW rQ
  obtain ⟨A, cW, rfl, hcW, _, _⟩ := own_slice rW
  obtain ⟨A', cQ, rfl, hcQ, _, _⟩ := own_slice rQ
  have RW := Mm.hid rW
  have RQ := Mm.hid rQ
  clear h1 h2 h3 h4 h5 h6 pk hm rW rQ
  go_enter Try.func53, Try.ntmps53
  go_upto_region 1 with (fail)
  generalize w.alloc (.cells #[.int .i64 1, .int .i64 nn, .int .i64 x, .int .i64 y] 90) = w1 at *
  obtain ⟨b0, b1, b2, b3⟩ := box90 BX.out
  have y1 : w1.cell? ⟨sb, 1, none⟩ = some (.slice (some ⟨lL, 0, none⟩) 2 2) := C1.out.scene.cell 1
  have e1 : w1.cell? ⟨lL, p, none⟩ = some (.pointer (some ⟨lkB l0 l1 p, 0, none⟩)) := C1.out.lock hp
  have hp0 : (0 : Int) ≤ (p : Int) := by omega
  have hp2 : (p : Int) < 2 := by omega
  obtain ⟨wb, hwb⟩ : ∃ wb, w1.heap.size = wb := ⟨_, rfl⟩
  have WB := Mm.hid hwb
  have hxb := BX.out.lt
  have HXB := Mm.hid hxb
  clear hwb hxb
  go_wp2_with fail
  go_region_held3 (fun w' => w'.cell? ⟨sb, 1, none⟩ = some (.slice (some ⟨lL, 0, none⟩) 2 2) ∧ w'.cell? ⟨w.heap.size, 1, none⟩ = some (.int .i64 nn) ∧ w'.cell? ⟨lL, p, none⟩ = some (.pointer (some ⟨lkB l0 l1 p, 0, none⟩))) (go_keep)
    (first | (go_at_call 43; refine (PK.out _).mono ?_; rintro e w8 ⟨rfl, rfl⟩; have z1 : w1.drew.cell? ⟨sb, 1, none⟩ = some (.slice (some ⟨lL, 0, none⟩) 2 2) := y1; have z5 : w1.drew.cell? ⟨w.heap.size, 1, none⟩ = some (.int .i64 nn) := b1; have z6 : w1.drew.cell? ⟨lL, p, none⟩ = some (.pointer (some ⟨lkB l0 l1 p, 0, none⟩)) := e1) | (go_at_call 45; refine (enter_at (lkB l0 l1 p) wb _ (by exact WB.out)).mono ?_; rintro e w2 ⟨rfl, bw, f2, s2⟩; have BW := Mm.hid bw; have F2 : Hid (Below w1.heap.size w1 w2) := ⟨f2.os, f2.tape, f2.output, f2.size, f2.block⟩; have S2 := Mm.hid s2; have C2 := Mm.hid (C1.out.keep (w' := w2) fun k hk => F2.out.block k (L1.out.lt hk)); have X2 := Mm.hid (BX.out.keep (w' := w2) (F2.out.block _ HXB.out)); have z1 : w2.cell? ⟨sb, 1, none⟩ = some (.slice (some ⟨lL, 0, none⟩) 2 2) := C2.out.scene.cell 1; have z5 : w2.cell? ⟨w.heap.size, 1, none⟩ = some (.int .i64 nn) := X2.out.cell 1; have z6 : w2.cell? ⟨lL, p, none⟩ = some (.pointer (some ⟨lkB l0 l1 p, 0, none⟩)) := C2.out.lock hp; clear bw f2 s2))
  all_goals (
    have NG : Hid (∀ k, G k → k ≠ wb) := fun k hk e => by have := L1.out.lt hk; have := WB.out; omega
    have RW2 := Mm.hid ((Fr.of_below F2.out).own RW.out (fun _ _ h => h))
    have RQ2 := Mm.hid ((Fr.of_below F2.out).own RQ.out (fun _ _ h => h))
    have L2 := Mm.hid ((L1.out.fresh (Fr.of_below F2.out) (fun _ h => h.elim)).sub (G := fun k => G k ∨ k = wb) fun k hk => hk.imp id fun e => by have := WB.out; have := S2.out; omega)
    have hsz : base ≤ w2.heap.size := L2.out.le
    have y2 : w2.cell? ⟨sb, 2, none⟩ = some (.slice A m cW) := C2.out.scene.cell 2
    clear z1 z5 z6 y1 e1 b0 b1 b2 b3 BX C1 L1 RW RQ F2 X2 HXB WB S2
    go_wp2_with (at_builtin; go_must (refine wp_ape1 base rfl (.tmp 25) (.tmp 27) 84 70 (.pointer none) 1 8 #[.pointer (some ⟨wb, 0, none⟩)] rfl Try.underlying84 info70 rfl (by decide) (by decide) (.slice A m cW) m _ rfl rfl rfl (by intro u hu; simp at hu; subst hu; rfl) RW2.out (Below.refl _ _) hsz HL.out ?_; intro v1 w7 k1 k2 k3 k4; have B7 := Mm.hid ((Fr.grown k3).blk C2.out.scene (fun e => own_ne RW2.out C2.out.scene (by decide) e)); have d1 : w7.cell? ⟨sb, 2, none⟩ = some (.slice A m cW) := B7.out.cell 2; have d2 : w7.frozen? ⟨sb, 2, none⟩ = false := B7.out.free 2; have K1 := Mm.hid k1; have K3 := Mm.hid k3; have K4 := Mm.hid (k4_of k4); clear k1 k2 k3 k4; obtain ⟨A1, c1, hv, hc1, _, _⟩ := own_slice K1.out; subst hv))
    all_goals (
      obtain ⟨c8, f8⟩ := C2.out.pushW (u := .pointer (some ⟨wb, 0, none⟩)) (by rw [List.length_map, HM.out]; exact K1.out) K3.out K4.out
      have C8 := Mm.hid c8
      have hsz8 : (w7.setCell ⟨sb, 2, none⟩ (.slice A1 (m + 1) c1)).heap.size = w7.heap.size := by simp [World.setCell]
      have L8 := Mm.hid ((L2.out.fresh f8 (fun k hk => hk.elim (fun e => .inl (C2.out.gW k e)) fun e => .inl (e ▸ C2.out.gs))).sub (G := fun k => (G k ∨ (w2.heap.size ≤ k ∧ k < w7.heap.size)) ∨ k = wb) fun k hk => hk.elim (fun h => h.elim (fun h => .inl (.inl h)) fun h => .inr ⟨h.1, by rw [hsz8]; exact h.2⟩) fun h => .inl (.inr h))
      have RQ8 := Mm.hid (f8.own RQ2.out fun k e hk => hk.elim (fun e2 => own_own_ne RQ2.out RW2.out (by decide) e e2) fun e2 => own_ne RQ2.out C2.out.scene (by decide) (e2 ▸ e))
      have BW8 := Mm.hid (f8.blk BW.out fun hk => hk.elim (fun e2 => own_ne RW2.out BW.out (by decide) e2) fun e2 => blk_ne BW.out C2.out.scene (by decide) e2)
      have NG8 : Hid (∀ k, (G k ∨ (w2.heap.size ≤ k ∧ k < w7.heap.size)) → k ≠ wb) := fun k hk => hk.elim (NG.out k) fun hk e => by have := BW.out.lt; omega
      have ENT : Hid (∀ (i : Nat) (E' : En), Es[i]? = some E' → G E'.wb ∧ G E'.qb) := fun i E' h => ⟨(C2.out.ent i E' h).1, (C2.out.ent i E' h).2.1⟩
      clear c8 f8 hsz8 d1 d2 y2 B7 K1 K3 K4 RW2 RQ2 C2 L2 BW hsz
      generalize w7.setCell ⟨sb, 2, none⟩ (.slice A1 (m + 1) c1) = w8 at *
      obtain ⟨G8, hG8⟩ : ∃ G8 : Nat → Prop, (fun k => G k ∨ (w2.heap.size ≤ k ∧ k < w7.heap.size)) = G8 := ⟨_, rfl⟩
      have GG : Hid (∀ k, G k → G8 k) := fun k hk => hG8 ▸ .inl hk
      have NG8' : Hid (∀ k, G8 k → k ≠ wb) := fun k hk => NG8.out k (by subst hG8; exact hk)
      have L8' : Hid (LB base g r k w0 (fun k => G8 k ∨ k = wb) S S w8) := by subst hG8; exact L8.out
      rw [hG8] at C8
      clear hG8 NG8 L8 NG
      have z4 : w8.cell? ⟨sb, 4, none⟩ = some (.pointer (some ⟨kb, 0, none⟩)) := C8.out.scene.cell 4
      have z5 : w8.cell? ⟨sb, 5, none⟩ = some (.slice A' m cQ) := C8.out.scene.cell 5
      obtain ⟨qb, hqb⟩ : ∃ qb, w8.heap.size = qb := ⟨_, rfl⟩
      have QB := Mm.hid hqb
      clear hqb
      have hszb : base ≤ qb := by have := L8'.out.le; have := QB.out; omega
      go_region_law (first | (refine step_ape1 base rfl (.tmp 35) (.tmp 41) 85 154 (.pointer none) 1 8 #[.pointer (some ⟨qb, 0, none⟩)] w9.heap.size rfl Try.underlying85 info154 rfl (by decide) (by decide) (.slice A' m cQ) m _ rfl rfl (Blk.new w9 _ _) rfl (by intro u hu; simp at hu; subst hu; rfl) RQb.out HSb.out HL.out ?_; intro v1 w10 k1 k3 k4; have B10 := Mm.hid ((Fr.grown k3).blk Cb.out.scene (fun e => own_ne Cb.out.rQ Cb.out.scene (by decide) e)); have d1 : w10.cell? ⟨sb, 5, none⟩ = some (.slice A' m cQ) := B10.out.cell 5; have d2 : w10.frozen? ⟨sb, 5, none⟩ = false := B10.out.free 5; have K1 := Mm.hid k1; have K3 := Mm.hid k3; have K4 := Mm.hid (k4_of' k4 (Nat.le_refl _)); clear k1 k3 k4; obtain ⟨A1, c1, hv, hc1, _, _⟩ := own_slice K1.out; subst hv) | (go_simp; go_at_call 87; refine (renter_at kb qb _ (by exact QB.out)).mono ?_; rintro e w9 ⟨rfl, bq, f9, s9⟩; have BQ := Mm.hid bq; have F9 : Hid (Below w8.heap.size w8 w9) := ⟨f9.os, f9.tape, f9.output, f9.size, f9.block⟩; have S9 := Mm.hid s9; have FB : Hid (Fr (fun _ => False) w8 (w9.alloc (.cells #[.pointer (some ⟨qb, 0, none⟩)] 154))) := (Fr.of_below F9.out).trans (Fr.alloc (fun _ => False) w9 _) fun _ _ h => h; have C9 := Mm.hid (C8.out.keep (w' := w9) fun k hk => F9.out.block k (L8'.out.lt (.inl hk))); have Cb := Mm.hid (C8.out.keep (w' := w9.alloc (.cells #[.pointer (some ⟨qb, 0, none⟩)] 154)) fun k hk => FB.out.block k (L8'.out.lt (.inl hk)) fun h => h); have RQb := Mm.hid (FB.out.own RQ8.out (fun _ _ h => h)); have HSb : Hid (base ≤ (w9.alloc (.cells #[.pointer (some ⟨qb, 0, none⟩)] 154)).heap.size) := Nat.le_trans (by have := L8'.out.le; omega) FB.out.size; have t4 : w9.cell? ⟨sb, 4, none⟩ = some (.pointer (some ⟨kb, 0, none⟩)) := C9.out.scene.cell 4; have t5 : w9.cell? ⟨sb, 5, none⟩ = some (.slice A' m cQ) := C9.out.scene.cell 5; have u5 : (w9.alloc (.cells #[.pointer (some ⟨qb, 0, none⟩)] 154)).cell? ⟨sb, 5, none⟩ = some (.slice A' m cQ) := Cb.out.scene.cell 5; clear bq f9 s9))
      all_goals (
        have FIN := Mm.hid (come_fin C8.out L8'.out HM.out HH.out BW8.out (fun i E' h => fun e => NG8'.out _ (GG.out _ (ENT.out i E' h).1) e) QB.out F9.out BQ.out S9.out K1.out K3.out K4.out)
        clear z4 z5 d1 d2 t4 t5 u5
        go_wp2
        go_ret
        exact ⟨rfl, FIN.out⟩)))
end
end Go.Proofs.Ytkbobgblohohcaa

/- Walk: the law LockScript, where the script is at most 2^20 long. -/
import Derived.Test.YtkbobgblohohcaaScG
import Derived.Test.YtkbobgblohohcaaRefW
namespace Go.Proofs.Ytkbobgblohohcaa
open Go.RowKit Go.Mm Go.Cells Go.WideShapes
set_option maxRecDepth 100000
structure S4 where
  d : Int
  n : Int
  x : Int
  y : Int
def fS (s : S4) : List Value := [.int .i64 s.d, .int .i64 s.n, .int .i64 s.x, .int .i64 s.y]
theorem fS_len (s : S4) : (fS s).length = 4 := rfl
def gS (s : S4) : Prop := gI s.d ∧ gI s.n ∧ gI s.x ∧ gI s.y
section
variable {H : Type} {enc : TypeId × Value → H} {w : World} {b0 : Nat} {spare : Nat → Bool} {held : Bool} {v : Value} {d : DataW H} {ps : List MemPlace} {ts : List TypeId} {ds : List (DataW H)} {j : Nat}
theorem trod_s4 {n : Nat} {cs : List Value} {x : DataW H × List MemPlace} (h : DataW.trod enc Try.prog w 0 spare held n 90 cs = some x) : ∃ y, fS y = cs ∧ gS y := by
  obtain ⟨xs, k, _, _, hl, hlen, hf⟩ := DataW.trod_struct Try.underlying90 h
  have hc : Try.prog.cellsOf 90 = 4 := by kernel_rfl
  have hc3 : Try.prog.cellsOf 3 = 1 := by kernel_rfl
  rw [hc] at hl
  match cs, hl, xs, hlen, hf with
  | [c0, c1, c2, c3], _, [x0, x1, x2, x3], _, hf =>
    have e0 := hf 0 _ rfl
    have e1 := hf 1 _ rfl
    have e2 := hf 2 _ rfl
    have e3 := hf 3 _ rfl
    obtain ⟨a0, r0, _, w0⟩ := DataW.trod_int Try.underlying3 (show DataW.trod enc Try.prog w 0 spare held k 3 [c0] = some x0 from e0)
    obtain ⟨a1, r1, _, w1⟩ := DataW.trod_int Try.underlying3 (show DataW.trod enc Try.prog w 0 spare held k 3 [c1] = some x1 from e1)
    obtain ⟨a2, r2, _, w2⟩ := DataW.trod_int Try.underlying3 (show DataW.trod enc Try.prog w 0 spare held k 3 [c2] = some x2 from e2)
    obtain ⟨a3, r3, _, w3⟩ := DataW.trod_int Try.underlying3 (show DataW.trod enc Try.prog w 0 spare held k 3 [c3] = some x3 from e3)
    simp only [List.cons.injEq, and_true] at r0 r1 r2 r3
    subst r0; subst r1; subst r2; subst r3
    exact ⟨⟨a0, a1, a2, a3⟩, rfl, w0, w1, w2, w3⟩
theorem open_s4 (hval : Value.okWide Try.prog w .any b0 82 v) (hd : DataW.Trod enc Try.prog w 0 spare held 82 v d ps)
    (hz : (DataW.weightsEach Try.prog ts ds).all (· ≤ reachBytes) = true) (hj : ts[j]? = some 82) (hj' : ds[j]? = some d) :
    ∃ A n c xs, v = .slice A n c ∧ Sl w 4 32 fS gS A n c xs :=
  open_sl fS gS Try.underlying82 (by kernel_rfl) (by decide) (by kernel_rfl) (fun _ _ _ h => trod_s4 h) hval hd hz hj hj'
end
structure S4At (w : World) (ad : Addr) (i : Nat) (s : S4) : Prop where
  c0 : w.cell? (ad.add (i * 4)) = some (.int .i64 s.d)
  c1 : w.cell? ⟨(ad.add (i * 4)).block, (ad.add (i * 4)).off + 1, none⟩ = some (.int .i64 s.n)
  c2 : w.cell? ⟨(ad.add (i * 4)).block, (ad.add (i * 4)).off + 2, none⟩ = some (.int .i64 s.x)
  c3 : w.cell? ⟨(ad.add (i * 4)).block, (ad.add (i * 4)).off + 3, none⟩ = some (.int .i64 s.y)
theorem rd_s4 {w : World} {A : Option Addr} {n i : Nat} {xs : List S4} {s : S4} (h : Rd w A n 4 (xs.flatMap fS)) (hl : xs.length = n) (hs : xs[i]? = some s) : ∃ ad, A = some ad ∧ ad.block < w.heap.size ∧ S4At w ad i s := by
  have hi := (List.getElem?_eq_some_iff.1 hs).1
  obtain ⟨ad, rfl, hb, hc⟩ := h.2 (by omega)
  have key : ∀ j u, j < 4 → (fS s)[j]? = some u → w.cell? (ad.add (i * 4 + j)) = some u := fun j u hj hu => hc _ _ (by rw [flatMap_at fS_len hs hj]; exact hu)
  have kf : ∀ j u, 0 < j → j < 4 → (fS s)[j]? = some u → w.cell? ⟨(ad.add (i * 4)).block, (ad.add (i * 4)).off + j, none⟩ = some u := by
    intro j u h0 hj hu
    rw [← add_field _ _ j h0]; exact key j u hj hu
  exact ⟨ad, rfl, hb, key 0 _ (by decide) rfl, kf 1 _ (by decide) (by decide) rfl, kf 2 _ (by decide) (by decide) rfl, kf 3 _ (by decide) (by decide) rfl⟩
section
variable {base g r sb lL l0 l1 kb n k : Nat} {w0 w : World} {a b : Int} {j : Nat}
set_option maxHeartbeats 2000000 in
theorem scene_none (d nn x y : Int) (b1 : (d == 1) = false) (b2 : (d == 2) = false) (b3 : (d == 3) = false) (b4 : (d == 4) = false) (b5 : (d == 5) = false) (b6 : (d == 6) = false) (b7 : (d == 7) = false) (b8 : (d == 8) = false) (h : ScS base g r w0 a b sb lL l0 l1 kb n k w) (hk : k ≤ 1048576) :
    Calls Try.prog 53 #[.pointer (some ⟨sb, 0, none⟩), .agg #[.int .i64 d, .int .i64 nn, .int .i64 x, .int .i64 y]] w (ScE base g r w0 a b sb lL l0 l1 kb n (k + 1)) := by
  obtain ⟨G, Es, vW, vQ, S, h1, h2, h3, h4, h5, h6⟩ := h
  have BX := Mm.hid (Blk.new w #[.int .i64 d, .int .i64 nn, .int .i64 x, .int .i64 y] 90)
  have C1 := Mm.hid (h1.keep (w' := w.alloc (.cells #[.int .i64 d, .int .i64 nn, .int .i64 x, .int .i64 y] 90)) fun k hk => Below.heap_alloc w _ k (h2.lt hk))
  have L1 := Mm.hid ((h2.grow (.cells #[.int .i64 d, .int .i64 nn, .int .i64 x, .int .i64 y] 90)).sub (G := G) fun _ h => .inl h)
  obtain ⟨m, hm⟩ : ∃ m, Es.length = m := ⟨_, rfl⟩
  have HM := Mm.hid hm
  have hmk : m ≤ 1048576 := by omega
  have FIN : Hid (∀ w1 : World, SC base g r a b G sb lL l0 l1 kb Es (Es.map eW) (Es.map eQ) vW vQ w1 → LB base g r k w0 G S S w1 → ScS base g r w0 a b sb lL l0 l1 kb n (k + 1) w1) := fun w1 c l => ⟨G, Es, vW, vQ, S, c, l.more (Nat.le_succ k), h3, by omega, by omega, by omega⟩
  clear h1 h2 h3 h4 h5 h6 hm
  have rW := C1.out.rW
  rw [List.length_map, HM.out] at rW
  obtain ⟨A, cW, rfl, hcW, _, _⟩ := own_slice rW
  clear rW
  rcases Nat.eq_zero_or_pos m with rfl | hm0
  · go_enter Try.func53, Try.ntmps53
    go_upto_region 1 with (fail)
    generalize w.alloc (.cells #[.int .i64 d, .int .i64 nn, .int .i64 x, .int .i64 y] 90) = w1 at *
    obtain ⟨c0, c1, c2, c3⟩ := box90 BX.out
    have y2 : w1.cell? ⟨sb, 2, none⟩ = some (.slice A 0 cW) := C1.out.scene.cell 2
    go_wp2
    go_ret
    exact ⟨rfl, FIN.out _ C1.out L1.out⟩
  · go_enter Try.func53, Try.ntmps53
    go_upto_region 1 with (fail)
    generalize w.alloc (.cells #[.int .i64 d, .int .i64 nn, .int .i64 x, .int .i64 y] 90) = w1 at *
    obtain ⟨c0, c1, c2, c3⟩ := box90 BX.out
    have y2 : w1.cell? ⟨sb, 2, none⟩ = some (.slice A m cW) := C1.out.scene.cell 2
    go_wp2_with fail
    go_region_held3 (fun w' => w'.cell? ⟨sb, 2, none⟩ = some (.slice A m cW) ∧ w'.cell? ⟨w.heap.size, 1, none⟩ = some (.int .i64 nn)) (go_keep)
      (first | (go_at_call 43; refine (pick17_any nn m _ hm0 (by omega)).mono ?_; rintro e w8 ⟨p, hp, rfl, rfl, -⟩; have z2 : w1.drew.cell? ⟨sb, 2, none⟩ = some (.slice A m cW) := y2; have z1 : w1.drew.cell? ⟨w.heap.size, 1, none⟩ = some (.int .i64 nn) := c1))
    all_goals (
      have d0 : w1.drew.cell? ⟨w.heap.size, 0, none⟩ = some (.int .i64 d) := c0
      go_wp2
      go_ret
      exact ⟨rfl, FIN.out _ (C1.out.keep fun _ _ => rfl) L1.out.drew⟩)
theorem scene_any (s : S4) (gs : gS s) (hj : j < n) (h : ScS base g r w0 a (j : Int) sb lL l0 l1 kb n k w) (hk : k ≤ 1048576) :
    Calls Try.prog 53 #[.pointer (some ⟨sb, 0, none⟩), .agg (fS s).toArray] w (ScE base g r w0 a (j : Int) sb lL l0 l1 kb n (k + 1)) := by
  obtain ⟨d, nn, x, y⟩ := s
  show Calls Try.prog 53 #[.pointer (some ⟨sb, 0, none⟩), .agg #[.int .i64 d, .int .i64 nn, .int .i64 x, .int .i64 y]] w _
  clear gs
  by_cases e1 : d = 1
  · subst e1; exact scene_enter nn x y h hk
  by_cases e2 : d = 2
  · subst e2; exact scene_step nn x y h hk
  by_cases e3 : d = 3
  · subst e3; exact scene_ready nn x y hj h hk
  by_cases e4 : d = 4
  · subst e4; exact scene_ticket nn x y h hk
  by_cases e5 : d = 5
  · subst e5; exact scene_leave nn x y h hk
  by_cases e6 : d = 6
  · subst e6; exact scene_store nn x y h hk
  by_cases e7 : d = 7
  · subst e7; exact scene_poison nn x y h hk
  by_cases e8 : d = 8
  · subst e8; exact scene_clear nn x y h hk
  exact scene_none d nn x y (beq_eq_false_iff_ne.2 e1) (beq_eq_false_iff_ne.2 e2) (beq_eq_false_iff_ne.2 e3) (beq_eq_false_iff_ne.2 e4) (beq_eq_false_iff_ne.2 e5) (beq_eq_false_iff_ne.2 e6) (beq_eq_false_iff_ne.2 e7) (beq_eq_false_iff_ne.2 e8) h hk
end
set_option maxHeartbeats 1000000 in
theorem entries17_any (A A' : Option Addr) (n c c' : Nat) (xs : List Acc) (w : World) (h : Rd w A n 5 (xs.flatMap fAcc)) (h' : Rd w A' n 5 (xs.flatMap fAcc)) (hl : xs.length = n) (hn : n ≤ 140737488355328) :
    Calls Try.prog 54 #[.slice A n c, .slice A' n c'] w fun e w' => e = .returned (.bool true) ∧ Below w.heap.size w w' := by
  have R := Mm.hid h
  have R' := Mm.hid h'
  have L := Mm.hid hl
  clear h h' hl
  go_enter Try.func54, Try.ntmps54
  go_wp2_with fail
  go_loopw [5] (fun i wr => ∃ k : Nat, k ≤ n ∧ i = .int .i64 (k : Nat) ∧ Hid (Fr (fun _ => False) w wr)) (fun i _ => n - (intOf i).toNat)
  case atStart => exact ⟨0, Nat.zero_le _, rfl, Fr.refl _ _⟩
  case round =>
    obtain ⟨k, hk, rfl, HB⟩ := hrel
    by_cases hlt : k < n
    · obtain ⟨x, hx⟩ : ∃ x, xs[k]? = some x := ⟨_, List.getElem?_eq_getElem (by rw [L.out]; exact hlt)⟩
      obtain ⟨ad, rfl, f0, f1, f2, f3, f4⟩ := accR (HB.out.rd R.out (fun _ _ h => h)) L.out hx
      obtain ⟨ad', rfl, g0, g1, g2, g3, g4⟩ := accR (HB.out.rd R'.out (fun _ _ h => h)) L.out hx
      clear hx
      go_upto_region 6 with (fail)
      go_quiet (fail)
      have HB2 : Hid (Fr (fun _ => False) w (wr.drewN nq)) := HB.out.trans (Fr.drewN (fun _ => False) wr nq) fun _ _ h => h
      clear f0 f1 f2 f3 f4 g0 g1 g2 g3 g4
      go_wp2_with fail
      go_roundw
      case rel => exact ⟨k + 1, by omega, by go_num, HB2.out⟩
      case measure => simp [intOf] <;> omega
    · have BL : Hid (Below w.heap.size w wr) := HB.out.below (fun _ h => h.elim) (Nat.le_refl _)
      go_wp2
      go_ret
      exact ⟨rfl, BL.out⟩
end Go.Proofs.Ytkbobgblohohcaa

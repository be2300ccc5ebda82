/- Walks: two traces compared; what is handed out, spoilt. -/
import Derived.Test.YtkbobgblohohcaaRefD
namespace Go.Proofs.Ytkbobgblohohcaa
open Go.RowKit Go.Mm Go.Cells
/-- a row of accesses, read -/
structure AccR (w : World) (ad : Addr) (i : Nat) (x : Acc) : Prop where
  c0 : w.cell? (ad.add (i * 5)) = some (.int .i8 x.k)
  c1 : w.cell? ⟨(ad.add (i * 5)).block, (ad.add (i * 5)).off + 1, none⟩ = some (.int .i64 x.a)
  c2 : w.cell? ⟨(ad.add (i * 5)).block, (ad.add (i * 5)).off + 2, none⟩ = some (.int .i64 x.v)
  c3 : w.cell? ⟨(ad.add (i * 5)).block, (ad.add (i * 5)).off + 3, none⟩ = some (.int .i64 x.o)
  c4 : w.cell? ⟨(ad.add (i * 5)).block, (ad.add (i * 5)).off + 4, none⟩ = some (.bool x.good)
theorem accR {w : World} {A : Option Addr} {n i : Nat} {xs : List Acc} {x : Acc} (h : Rd w A n 5 (xs.flatMap fAcc)) (hl : xs.length = n) (hs : xs[i]? = some x) : ∃ ad, A = some ad ∧ AccR w ad i x := by
  have hi := (List.getElem?_eq_some_iff.1 hs).1
  obtain ⟨ad, rfl, hb, hc⟩ := h.2 (by omega)
  have key : ∀ j u, j < 5 → (fAcc x)[j]? = some u → w.cell? (ad.add (i * 5 + j)) = some u := fun j u hj hu => hc _ _ (by rw [flatMap_at fAcc_len hs hj]; exact hu)
  have kf : ∀ j u, 0 < j → j < 5 → (fAcc x)[j]? = some u → w.cell? ⟨(ad.add (i * 5)).block, (ad.add (i * 5)).off + j, none⟩ = some u := by
    intro j u h0 hj hu
    rw [← add_fieldR _ _ j h0]; exact key j u hj hu
  exact ⟨ad, rfl, key 0 _ (by decide) rfl, kf 1 _ (by decide) (by decide) rfl, kf 2 _ (by decide) (by decide) rfl, kf 3 _ (by decide) (by decide) rfl, kf 4 _ (by decide) (by decide) rfl⟩
set_option maxRecDepth 100000 in
set_option maxHeartbeats 1000000 in
theorem entries_any (A A' : Option Addr) (n c c' : Nat) (xs : List Acc) (w : World) (h : Rd w A n 5 (xs.flatMap fAcc)) (h' : Rd w A' n 5 (xs.flatMap fAcc)) (hl : xs.length = n) (hn : n ≤ 140737488355328) :
    Calls Try.prog 38 #[.slice A n c, .slice A' n c'] w fun e w' => e = .returned (.bool true) ∧ Below w.heap.size w w' := by
  have R := Mm.hid h
  have R' := Mm.hid h'
  have L := Mm.hid hl
  clear h h' hl
  go_enter Try.func38, Try.ntmps38
  go_wp2_with fail
  go_loopw [5] (fun i wr => ∃ k : Nat, k ≤ n ∧ i = .int .i64 (k : Nat) ∧ Hid (Fr (fun _ => False) w wr)) (fun i _ => n - (intOf i).toNat)
  case atStart => exact ⟨0, Nat.zero_le _, rfl, Fr.refl _ _⟩
  case round =>
    obtain ⟨k, hk, rfl, HB⟩ := hrel
    by_cases hlt : k < n
    · obtain ⟨x, hx⟩ : ∃ x, xs[k]? = some x := ⟨_, List.getElem?_eq_getElem (by rw [L.out]; exact hlt)⟩
      obtain ⟨ad, rfl, f0, f1, f2, f3, f4⟩ := accR (HB.out.rd R.out (fun _ _ h => h)) L.out hx
      obtain ⟨ad', rfl, g0, g1, g2, g3, g4⟩ := accR (HB.out.rd R'.out (fun _ _ h => h)) L.out hx
      clear hx
      go_upto_region 6 with (fail)
      go_quiet (fail)
      have HB2 : Hid (Fr (fun _ => False) w (wr.drewN nq)) := HB.out.trans (Fr.drewN (fun _ => False) wr nq) fun _ _ h => h
      clear f0 f1 f2 f3 f4 g0 g1 g2 g3 g4
      go_wp2_with fail
      go_roundw
      case rel => exact ⟨k + 1, by omega, by go_num, HB2.out⟩
      case measure => simp [intOf] <;> omega
    · have BL : Hid (Below w.heap.size w wr) := HB.out.below (fun _ h => h.elim) (Nat.le_refl _)
      go_wp2
      go_ret
      exact ⟨rfl, BL.out⟩
def SpoilE (v : Value) (w : World) (e : Ending) (w' : World) : Prop := e = .returned (.tuple #[]) ∧ Fr (fun k => v.ownBlock = some k) w w'
/-- a row that is gone on with: where it lies -/
def Gone (base t sz : Nat) (v0 : Value) (w wr : World) (v : Value) (n : Nat) : Prop := ∃ ys, wr.ownsRow base t sz v n ys ∧ (∀ b, v.ownBlock = some b → v0.ownBlock = some b ∨ w.heap.size ≤ b) ∧ Fr (fun k => v0.ownBlock = some k) w wr
theorem Gone.app {base t sz n : Nat} {v0 v v1 : Value} {w wr w1 : World} {ys : List Value} (h : Gone base t sz v0 w wr v n) (k1 : w1.ownsRow base t sz v1 (n + 1) ys) (k3 : wr.grownBy w1 v.ownBlock) (k4 : v1.ownBlock = v.ownBlock ∨ ∃ b, v1.ownBlock = some b ∧ wr.heap.size ≤ b ∧ ∀ k, k < wr.heap.size → w1.heap[k]? = wr.heap[k]?) : Gone base t sz v0 w w1 v1 (n + 1) := by
  obtain ⟨_, _, h2, h3⟩ := h
  refine ⟨ys, k1, fun b hb => ?_, h3.trans (Fr.grown k3) fun g hg e => ?_⟩
  · rcases k4 with e | ⟨b', e, e2, _⟩
    · exact h2 b (e ▸ hb)
    · rw [hb] at e; injection e with e; right; have := h3.size; omega
  · rcases h2 g e with h | h
    · exact h
    · omega
set_option maxRecDepth 100000 in
set_option maxHeartbeats 1000000 in
theorem ownwords_any (base : Nat) (A : Option Addr) (n c : Nat) (xs : List Value) (w : World) (h : w.ownsRow base 3 1 (.slice A n c) n xs) (hB : base ≤ w.heap.size) (hn : (n + 20) * 8 ≤ 140737488355328) :
    Calls Try.prog 36 #[.slice A n c] w (SpoilE (.slice A n c) w) := by
  have G0 : Hid (Gone base 3 1 (.slice A n c) w w (.slice A n c) n) := ⟨xs, h, fun b hb => .inl hb, Fr.refl _ _⟩
  have hnc : n ≤ c := by obtain ⟨_, _, e, hc, _⟩ := own_slice h; injection e with _ _ e; omega
  clear h
  go_enter Try.func36, Try.ntmps36
  go_wp2_with fail
  go_loopw [2] (fun i wr => ∃ k : Nat, k ≤ n ∧ i = .int .i64 (k : Nat) ∧ Hid (Gone base 3 1 (.slice A n c) w wr (.slice A n c) n)) (fun i _ => n - (intOf i).toNat)
  case atStart => exact ⟨0, Nat.zero_le _, rfl, G0.out⟩
  case round =>
    obtain ⟨k, hk, rfl, HK⟩ := hrel
    clear G0
    by_cases hlt : k < n
    · obtain ⟨ys, o, _, hf⟩ := HK.out
      obtain ⟨g, cap, hA, _, hbg, hgs, hcell, hfree⟩ := own_blk o (by omega)
      injection hA with e1 _ e3
      subst e1
      subst e3
      have hyl := own_len o
      obtain ⟨u, hu⟩ : ∃ u, ys[k]? = some u := ⟨_, List.getElem?_eq_getElem (by omega)⟩
      have f0 : wr.cell? ⟨g, k, none⟩ = some u := hcell k u hu
      have f1 : wr.frozen? ⟨g, k, none⟩ = false := hfree k
      have FN : Hid (Gone base 3 1 (.slice (some ⟨g, 0, none⟩) n c) w (wr.setCell ⟨g, k, none⟩ (.int .i64 (-7))) (.slice (some ⟨g, 0, none⟩) n c) n) := ⟨_, own_set o k _, fun b hb => .inl hb, hf.trans (Fr.setCell wr _ _) fun _ _ e => by have e : _ = g := e; rw [e]; rfl⟩
      clear o hf hcell hfree hyl hu HK
      go_wp2
      go_roundw
      case rel => exact ⟨k + 1, by omega, by go_num, FN.out⟩
      case measure => simp [intOf] <;> omega
    · go_wp2_with fail
      clear hlt
      go_loopw [0, 3] (fun l i wz => ∃ k : Nat, k ≤ 20 ∧ i = .int .i64 (k : Nat) ∧ Hid (Gone base 3 1 (.slice A n c) w wz l (n + k))) (fun _ i _ => 20 - (intOf i).toNat)
      case atStart => exact ⟨0, Nat.zero_le _, rfl, HK.out⟩
      case round =>
        obtain ⟨j, hj, rfl, HJ⟩ := hrel
        clear HK
        by_cases hlt : j < 20
        · obtain ⟨ys, o, _, hf⟩ := HJ.out
          obtain ⟨A2, c2, rfl, _, _, _⟩ := own_slice o
          have O := Mm.hid o
          have hO1 : Hid (∀ u ∈ (#[Value.int .i64 (-8)] : Array Value).toList, u.oneCell' = true) := by intro u hu; simp at hu; rcases hu with rfl; rfl
          have hsz := hf.size
          clear o hf
          go_wp2_with (at_builtin; go_must (refine wp_ape1 base rfl (.tmp 17) (.tmp 18) 30 3 (.int .i64 0) 1 8 #[.int .i64 (-8)] rfl Try.underlying30 info3 rfl (by decide) (by decide) (.slice A2 (n + j) c2) (n + j) _ rfl rfl rfl hO1.out O.out (Below.refl _ _) (by omega) (by omega) ?_; intro v1 w7 k1 k2 k3 k4; have FN := Mm.hid (HJ.out.app k1 k3 k4); clear k1 k2 k3 k4; obtain ⟨ys1, o1, _⟩ := FN.out; obtain ⟨A3, c3, hv, _⟩ := own_slice o1; subst hv; clear o1))
          all_goals (
            go_roundw
            case rel => exact ⟨j + 1, by omega, by go_num, FN.out⟩
            case measure => simp [intOf] <;> omega)
        · obtain ⟨_, _, _, hf⟩ := HJ.out
          have FIN := Mm.hid hf
          clear hf
          go_wp2
          go_end0
          exact ⟨rfl, FIN.out⟩
theorem five_set {w : World} {base n c g : Nat} {ys : List Value} (o : w.ownsRow base 47 5 (.slice (some ⟨g, 0, none⟩) n c) n ys) (k : Nat) (u0 u1 u2 u3 u4 : Value) :
    (((((w.setCell ⟨g, k, none⟩ u0).setCell ⟨g, k + 1, none⟩ u1).setCell ⟨g, k + 2, none⟩ u2).setCell ⟨g, k + 3, none⟩ u3).setCell ⟨g, k + 4, none⟩ u4).ownsRow base 47 5 (.slice (some ⟨g, 0, none⟩) n c) n (((((ys.set k u0).set (k + 1) u1).set (k + 2) u2).set (k + 3) u3).set (k + 4) u4) ∧ Fr (· = g) w (((((w.setCell ⟨g, k, none⟩ u0).setCell ⟨g, k + 1, none⟩ u1).setCell ⟨g, k + 2, none⟩ u2).setCell ⟨g, k + 3, none⟩ u3).setCell ⟨g, k + 4, none⟩ u4) := by
  have st : ∀ {W : World} {ys : List Value}, W.ownsRow base 47 5 (.slice (some ⟨g, 0, none⟩) n c) n ys → ∀ (j : Nat) (u : Value), (W.setCell ⟨g, j, none⟩ u).ownsRow base 47 5 (.slice (some ⟨g, 0, none⟩) n c) n (ys.set j u) := by
    intro W ys h j u
    rcases h.2 with ⟨h0, _⟩ | ⟨g', cap, cur, hv, hb, hg, hnc, hcm, hcs, ht⟩
    · cases h0
    · injection hv with h1 h2 h3
      injection h1 with h1
      injection h1 with h1
      subst h1
      subst h3
      refine ⟨by rw [List.length_set]; exact h.1, .inr ⟨g, c, cur.setIfInBounds j u, rfl, hb, ?_, hnc, hcm, by simpa using hcs, ?_⟩⟩
      · exact (show Blk W g 47 cur from hg).set j u
      · rw [← ht, Array.toList_setIfInBounds, List.take_set]
  exact ⟨st (st (st (st (st o k u0) (k + 1) u1) (k + 2) u2) (k + 3) u3) (k + 4) u4, ((((Fr.setCell w ⟨g, k, none⟩ u0).trans (Fr.setCell _ ⟨g, k + 1, none⟩ u1) fun _ _ h => h).trans (Fr.setCell _ ⟨g, k + 2, none⟩ u2) fun _ _ h => h).trans (Fr.setCell _ ⟨g, k + 3, none⟩ u3) fun _ _ h => h).trans (Fr.setCell _ ⟨g, k + 4, none⟩ u4) fun _ _ h => h⟩
theorem set5 {zs : List Acc} {k : Nat} {d : Acc} (hd : zs[k]? = some d) (e : Acc) :
    (((((zs.flatMap fAcc).set (k * 5) (.int .i8 e.k)).set (k * 5 + 1) (.int .i64 e.a)).set (k * 5 + 2) (.int .i64 e.v)).set (k * 5 + 3) (.int .i64 e.o)).set (k * 5 + 4) (.bool e.good) = (zs.set k e).flatMap fAcc := by
  obtain ⟨d0, d1, d2, d3, d4⟩ := d
  obtain ⟨e0, e1, e2, e3, e4⟩ := e
  have hk := (List.getElem?_eq_some_iff.1 hd).1
  have at_ : ∀ x : Acc, (zs.set k x)[k]? = some x := fun x => List.getElem?_set_self hk
  have q0 := flatMap_set fAcc_len hd (j := 0) (y := ⟨e0, d1, d2, d3, d4⟩) (by decide) rfl
  dsimp only
  rw [Nat.add_zero] at q0
  rw [q0]
  rw [flatMap_set fAcc_len (at_ ⟨e0, d1, d2, d3, d4⟩) (j := 1) (y := ⟨e0, e1, d2, d3, d4⟩) (by decide) rfl, List.set_set]
  rw [flatMap_set fAcc_len (at_ ⟨e0, e1, d2, d3, d4⟩) (j := 2) (y := ⟨e0, e1, e2, d3, d4⟩) (by decide) rfl, List.set_set]
  rw [flatMap_set fAcc_len (at_ ⟨e0, e1, e2, d3, d4⟩) (j := 3) (y := ⟨e0, e1, e2, e3, d4⟩) (by decide) rfl, List.set_set]
  rw [flatMap_set fAcc_len (at_ ⟨e0, e1, e2, e3, d4⟩) (j := 4) (y := ⟨e0, e1, e2, e3, e4⟩) (by decide) rfl, List.set_set]
def GoneT (base : Nat) (v0 : Value) (w wr : World) (n : Nat) : Prop := ∃ zs : List Acc, zs.length = n ∧ wr.ownsRow base 47 5 v0 n (zs.flatMap fAcc) ∧ Fr (fun k => v0.ownBlock = some k) w wr
set_option maxRecDepth 100000 in
set_option maxHeartbeats 1000000 in
theorem owntrace_any (base : Nat) (A : Option Addr) (n c : Nat) (xs : List Acc) (w : World) (h : w.ownsRow base 47 5 (.slice A n c) n (xs.flatMap fAcc)) (hl : xs.length = n) (hB : base ≤ w.heap.size) (hn : (n + 20) * 40 ≤ 140737488355328) :
    Calls Try.prog 35 #[.slice A n c] w (SpoilE (.slice A n c) w) := by
  have G0 : Hid (GoneT base (.slice A n c) w w n) := ⟨xs, hl, h, Fr.refl _ _⟩
  have hnc : n ≤ c := by obtain ⟨_, _, e, hc, _⟩ := own_slice h; injection e with _ _ e; omega
  clear h hl
  go_enter Try.func35, Try.ntmps35
  go_wp2_with fail
  go_loopw [2] (fun i wr => ∃ k : Nat, k ≤ n ∧ i = .int .i64 (k : Nat) ∧ Hid (GoneT base (.slice A n c) w wr n)) (fun i _ => n - (intOf i).toNat)
  case atStart => exact ⟨0, Nat.zero_le _, rfl, G0.out⟩
  case round =>
    obtain ⟨k, hk, rfl, HK⟩ := hrel
    clear G0
    by_cases hlt : k < n
    · obtain ⟨zs, hz, o, hf⟩ := HK.out
      obtain ⟨g, cap, hA, _, hbg, hgs, hcell, hfree⟩ := own_blk o (by omega)
      injection hA with e1 _ e3
      subst e1
      subst e3
      obtain ⟨d, hd⟩ : ∃ d, zs[k]? = some d := ⟨_, List.getElem?_eq_getElem (by omega)⟩
      have key : ∀ j u, j < 5 → (fAcc d)[j]? = some u → wr.cell? ⟨g, k * 5 + j, none⟩ = some u := fun j u hj hu => hcell (k * 5 + j) u (by rw [flatMap_at fAcc_len hd hj]; exact hu)
      have f0 : wr.cell? ⟨g, k * 5, none⟩ = some (.int .i8 d.k) := key 0 _ (by decide) rfl
      have f1 := key 1 (.int .i64 d.a) (by decide) rfl
      have f2 := key 2 (.int .i64 d.v) (by decide) rfl
      have f3 := key 3 (.int .i64 d.o) (by decide) rfl
      have f4 := key 4 (.bool d.good) (by decide) rfl
      have z0 : wr.frozen? ⟨g, k * 5, none⟩ = false := hfree _
      have z1 : wr.frozen? ⟨g, k * 5 + 1, none⟩ = false := hfree _
      have z2 : wr.frozen? ⟨g, k * 5 + 2, none⟩ = false := hfree _
      have z3 : wr.frozen? ⟨g, k * 5 + 3, none⟩ = false := hfree _
      have z4 : wr.frozen? ⟨g, k * 5 + 4, none⟩ = false := hfree _
      obtain ⟨o5, f5⟩ := five_set o (k * 5) (.int .i8 99) (.int .i64 0) (.int .i64 0) (.int .i64 0) (.bool false)
      rw [set5 hd ⟨99, 0, 0, 0, false⟩] at o5
      have FN := Mm.hid (⟨_, by rw [List.length_set]; exact hz, o5, hf.trans f5 fun _ _ e => by have e : _ = g := e; rw [e]; rfl⟩ : GoneT base (.slice (some ⟨g, 0, none⟩) n c) w _ n)
      clear o hf hcell hfree key hd hz o5 f5 HK
      go_wp2
      go_roundw
      case rel => exact ⟨k + 1, by omega, by go_num, FN.out⟩
      case measure => simp [intOf] <;> omega
    · go_wp2_with fail
      clear hlt
      go_loopw [0, 3] (fun l i wz => ∃ k : Nat, k ≤ 20 ∧ i = .int .i64 (k : Nat) ∧ Hid (Gone base 47 5 (.slice A n c) w wz l (n + k))) (fun _ i _ => 20 - (intOf i).toNat)
      case atStart => obtain ⟨zs, _, o, hf⟩ := HK.out; exact ⟨0, Nat.zero_le _, rfl, _, o, fun b hb => .inl hb, hf⟩
      case round =>
        obtain ⟨j, hj, rfl, HJ⟩ := hrel
        clear HK
        by_cases hlt : j < 20
        · obtain ⟨ys, o, _, hf⟩ := HJ.out
          obtain ⟨A2, c2, rfl, _, _, _⟩ := own_slice o
          have O := Mm.hid o
          have hO1 : Hid (∀ u ∈ (#[Value.int .i8 98, .int .i64 0, .int .i64 0, .int .i64 0, .bool false] : Array Value).toList, u.oneCell' = true) := by intro u hu; simp at hu; rcases hu with rfl | rfl | rfl <;> rfl
          have hsz := Nat.le_trans hB hf.size
          have hl40 : (n + j + 1) * 40 ≤ 140737488355328 := Nat.le_trans (Nat.mul_le_mul_right 40 (Nat.add_le_add_left hlt n : n + (j + 1) ≤ n + 20)) hn
          clear o hf
          go_wp2_with (at_builtin; go_must (refine wp_ape1 base rfl (.tmp 18) (.tmp 20) 41 47 (.agg #[.int .i8 0, .int .i64 0, .int .i64 0, .int .i64 0, .bool false]) 5 40 #[.int .i8 98, .int .i64 0, .int .i64 0, .int .i64 0, .bool false] rfl Try.underlying41 info47 rfl (by decide) (by decide) (.slice A2 (n + j) c2) (n + j) _ rfl rfl rfl hO1.out O.out (Below.refl _ _) hsz hl40 ?_; intro v1 w7 k1 k2 k3 k4; have FN := Mm.hid (HJ.out.app k1 k3 k4); clear k1 k2 k3 k4; obtain ⟨ys1, o1, _⟩ := FN.out; obtain ⟨A3, c3, hv, _⟩ := own_slice o1; subst hv; clear o1))
          all_goals (
            go_roundw
            case rel => exact ⟨j + 1, by omega, by go_num, FN.out⟩
            case measure => simp [intOf] <;> omega)
        · obtain ⟨_, _, _, hf⟩ := HJ.out
          have FIN := Mm.hid hf
          clear hf
          go_wp2
          go_end0
          exact ⟨rfl, FIN.out⟩
end Go.Proofs.Ytkbobgblohohcaa

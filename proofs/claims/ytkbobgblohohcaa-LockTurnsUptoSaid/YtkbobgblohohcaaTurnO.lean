/- Walks: a task's move, where it comes. -/
import Derived.Test.YtkbobgblohohcaaTurnN
namespace Go.Proofs.Ytkbobgblohohcaa
open Go.RowKit Go.Mm Go.Cells
section
variable {base g : Nat} {w0 : World} {G : Nat → Prop} {rb lL l0 l1 tb n cap k t : Nat} {bg : Int} {Ts : List Tk} {came left m : Nat} {v : Value} {w : World} {S : Cm}
theorem box01 {W : World} {xb : Nat} {p0 p1 p2 p3 : Value} (h : Blk W xb 153 #[p0, p1, p2, p3]) (q0 q1 : Value) :
    Blk ((W.setCell ⟨xb, 0, none⟩ q0).setCell ⟨xb, 1, none⟩ q1) xb 153 #[q0, q1, p2, p3] ∧ Fr (· = xb) W ((W.setCell ⟨xb, 0, none⟩ q0).setCell ⟨xb, 1, none⟩ q1) := by
  have h2 : Blk _ xb 153 #[q0, p1, p2, p3] := h.set 0 q0
  exact ⟨h2.set 1 q1, (Fr.setCell W ⟨xb, 0, none⟩ q0).trans (Fr.setCell _ ⟨xb, 1, none⟩ q1) fun _ _ h => h⟩
set_option maxRecDepth 100000 in
set_option maxHeartbeats 2000000 in
theorem move_take (st : Int) (H0 : Hid (RM base g G rb lL l0 l1 tb n cap Ts (came : Int) (left : Int) v (ordL m) w)) (H1 : Hid (HasG base g w0 G S w)) (H2 : Hid (Inv bg k n S Ts came left m)) (ht : t < n) (_ : n ≤ 8) (W : Wt)
    (HT : Hid (Ts[t]? = some ⟨none, W, -1, false, 0⟩)) (hp : Hid (wrap64 (bg + (came : Int)) ≠ poison)) (hk : k ≤ 1048576) (hl : came ≤ 1048576) :
    Calls Try.prog 49 #[.pointer (some ⟨rb, 0, none⟩), .int .i64 (t : Int), .int .i64 st] w (MoveE base g w0 rb lL l0 l1 tb n cap bg (k + 1)) := by
  have r2 : w.cell? ⟨rb, 2, none⟩ = some (.slice (some ⟨tb, 0, none⟩) n cap) := H0.out.room.cell 2
  obtain ⟨c0, c1, c2, c3, _, _, _, _⟩ := H0.out.at HT.out ht
  simp only [Option.map] at c0
  have BX := Mm.hid (Blk.new w #[.pointer none, .int .i64 (-1), .bool false, .int .i64 0] 153)
  have HG1 := Mm.hid (H1.out.grow (.cells #[.pointer none, .int .i64 (-1), .bool false, .int .i64 0] 153))
  have BL := Mm.hid ((Below.refl w.heap.size w).alloc (Nat.le_refl _) (.cells #[.pointer none, .int .i64 (-1), .bool false, .int .i64 0] 153))
  obtain ⟨y, hy⟩ : ∃ y, wrap64 (bg + (came : Int)) = y := ⟨_, rfl⟩
  obtain ⟨x, hx⟩ : ∃ x, wrap64 (bg + (left : Int)) = x := ⟨_, rfl⟩
  have hw2 : S.ws[2]? = some x := by rw [← hx]; exact H2.out.w2
  have W2 := Mm.hid hw2
  have A1 : Hid (readyW x ⟨0, false, false⟩ = true) := rfl
  have A2 : Hid (stepW 1 2 ⟨0, false, false⟩ S = (false, ⟨y, true, false⟩, S.add 1 1)) := by show _ = _; exact step_idle (by rw [← hy]; exact H2.out.w1) (hy ▸ hp.out)
  have IN : Hid (∀ b, Inv bg (k + 1) n (S.add 1 1) (Ts.set t ⟨some b, ⟨y, true, false⟩, (came : Int), false, 0⟩) (came + 1) left m) := fun b => by
    have := H2.out.take HT.out ⟨rfl, rfl, rfl, rfl⟩ b hp.out
    rw [hy] at this; exact this
  have hT8 : Hid ((S.tr.length + 1) * 40 ≤ 140737488355328) := by show _ ≤ _; have := H2.out.tr; omega
  have hB8 : Hid (S.bad ≤ 4611686018427387904) := by show _ ≤ _; have := H2.out.bad; omega
  clear hw2 hy hx
  go_enter Try.func49, Try.ntmps49
  go_upto_region 2 with (fail)
  generalize w.alloc (.cells #[.pointer none, .int .i64 (-1), .bool false, .int .i64 0] 153) = w1 at *
  have KG : Hid (∀ k, G k → w1.heap[k]? = w.heap[k]?) := fun k hk => BL.out.block k (H1.out.lt hk)
  have H3 := Mm.hid (H0.out.keep KG.out)
  have hxG : Hid (∀ k, G k → k ≠ w.heap.size) := fun k hk e => by have := H1.out.lt hk; omega
  have hbase := H1.out.le
  clear r2 c0 c1 c2 c3 KG H0 H1 BL
  obtain ⟨bl, gl⟩ := H3.out.lk t
  have hGl : lkB l0 l1 t < w1.heap.size := bl.lt
  have BLK := Mm.hid bl
  have GL := Mm.hid gl
  have r1 : w1.cell? ⟨rb, 1, none⟩ = some (.slice (some ⟨lL, 0, none⟩) 2 2) := H3.out.room.cell 1
  have e0 : w1.cell? ⟨lL, 0, none⟩ = some (.pointer (some ⟨l0, 0, none⟩)) := H3.out.locks.cell 0
  have e1 : w1.cell? ⟨lL, 1, none⟩ = some (.pointer (some ⟨l1, 0, none⟩)) := H3.out.locks.cell 1
  have x0 : w1.cell? ⟨w.heap.size, 0, none⟩ = some (.pointer none) := BX.out.cell 0
  have x1 : w1.cell? ⟨w.heap.size, 1, none⟩ = some (.int .i64 (-1)) := BX.out.cell 1
  have x2 : w1.cell? ⟨w.heap.size, 2, none⟩ = some (.bool false) := BX.out.cell 2
  have x3 : w1.cell? ⟨w.heap.size, 3, none⟩ = some (.int .i64 0) := BX.out.cell 3
  have hxw1 : w.heap.size < w1.heap.size := BX.out.lt
  clear bl gl
  generalize w.heap.size = xb at *
  have H4 := Mm.hid (HG1.out.grow (.cells #[.pointer (some ⟨lkB l0 l1 t, 0, none⟩), .int .i64 0, .bool false, .bool false] 150))
  have BW := Mm.hid (Blk.new w1 #[.pointer (some ⟨lkB l0 l1 t, 0, none⟩), .int .i64 0, .bool false, .bool false] 150)
  have BA := Mm.hid ((Below.refl w1.heap.size w1).alloc (Nat.le_refl _) (.cells #[.pointer (some ⟨lkB l0 l1 t, 0, none⟩), .int .i64 0, .bool false, .bool false] 150))
  have HNW : Hid (∀ k, G k → k ≠ w1.heap.size) := fun k hk e => by have := HG1.out.lt (.inl hk); omega
  obtain ⟨q1, q2, q3⟩ | ⟨q1, q2, q3⟩ := parity (l0 := l0) (l1 := l1) t
  · go_wp2_with fail
    refine (enter_any l0 _).mono ?_
    rintro e w2 ⟨rfl, hw2⟩
    rw [← q3] at hw2
    rw [← hw2] at H4 BW BA
    clear hw2 q1 q2 q3 r1 e0 e1
    have H5 := Mm.hid (H3.out.keep (w' := w2) fun k hk => BA.out.block k (HG1.out.lt (.inl hk)))
    have X5 := Mm.hid (BX.out.keep (BA.out.block _ hxw1))
    have BL5 := Mm.hid (BLK.out.keep (BA.out.block _ hGl))
    have hwb : base ≤ w1.heap.size := HG1.out.le
    have hwx : xb ≠ w1.heap.size := by omega
    have hlw : lkB l0 l1 t ≠ w1.heap.size := by omega
    clear x0 x1 x2 x3 BX HG1 H3 BLK BA hGl hxw1
    generalize w1.heap.size = wb at *
    have x0 : w2.cell? ⟨xb, 0, none⟩ = some (.pointer none) := X5.out.cell 0
    have x1 : w2.cell? ⟨xb, 1, none⟩ = some (.int .i64 (-1)) := X5.out.cell 1
    have x0f : w2.frozen? ⟨xb, 0, none⟩ = false := X5.out.free 0
    have x1f : w2.frozen? ⟨xb, 1, none⟩ = false := X5.out.free 1
    go_upto_region 5 with (fail)
    obtain ⟨b6, f6⟩ := box01 X5.out (.pointer (some ⟨wb, 0, none⟩)) (.int .i64 (-1))
    have X6 := Mm.hid b6
    have H6 := Mm.hid (H5.out.off f6 hxG.out fun k hk => H4.out.lt (.inl (.inl hk)))
    have HG6 := Mm.hid (H4.out.write f6 fun k e => ⟨.inl (.inr e), by have e : k = xb := e; rw [e]; exact hbase⟩)
    have BW6 := Mm.hid (f6.blk BW.out (fun e => hwx e.symm))
    have BL6 := Mm.hid (f6.blk BL5.out (fun e => blk_ne BL5.out X5.out (by decide) e))
    clear b6 f6 x0 x1 x0f x1f H5 X5 BL5 H4 BW
    generalize (w2.setCell ⟨xb, 0, none⟩ (.pointer (some ⟨wb, 0, none⟩))).setCell ⟨xb, 1, none⟩ (.int .i64 (-1)) = w3 at *
    have x0 : w3.cell? ⟨xb, 0, none⟩ = some (.pointer (some ⟨wb, 0, none⟩)) := X6.out.cell 0
    have x1 : w3.cell? ⟨xb, 1, none⟩ = some (.int .i64 (-1)) := X6.out.cell 1
    have x2 : w3.cell? ⟨xb, 2, none⟩ = some (.bool false) := X6.out.cell 2
    have x3 : w3.cell? ⟨xb, 3, none⟩ = some (.int .i64 0) := X6.out.cell 3
    go_wp2_with fail
    refine (ready_any HG6.out 1 2 x W2.out wb (lkB l0 l1 t) ⟨0, false, false⟩ (.inr rfl) BW6.out BL6.out).mono ?_
    rw [A1.out]
    rintro e w4 ⟨rfl, h7, k7⟩
    have H7 := Mm.hid (H6.out.keep fun k hk => k7 k (.inl (.inl hk)))
    have X7 := Mm.hid (X6.out.keep (k7 _ (.inl (.inr rfl))))
    have BW7 := Mm.hid (BW6.out.keep (k7 _ (.inr rfl)))
    have BL7 := Mm.hid (BL6.out.keep (k7 _ (.inl (.inl GL.out))))
    have HG7 := Mm.hid h7
    clear h7 k7 H6 X6 BW6 BL6 HG6 x0 x1 x2 x3
    have x0 : w4.cell? ⟨xb, 0, none⟩ = some (.pointer (some ⟨wb, 0, none⟩)) := X7.out.cell 0
    go_wp2_with fail
    refine (step_any HG7.out 1 2 wb (lkB l0 l1 t) ⟨0, false, false⟩ (.inr rfl) hwb (.inl (.inl GL.out)) hlw BW7.out BL7.out hB8.out hT8.out).mono ?_
    rw [A2.out]
    rintro e w5 ⟨rfl, h8, b8, k8⟩
    have H8 := Mm.hid (H7.out.keep fun k hk => k8 k (.inl (.inl hk)) (HNW.out k hk))
    have X8 := Mm.hid (X7.out.keep (k8 _ (.inl (.inr rfl)) hwx))
    have BW8 := Mm.hid b8
    have HG8 := Mm.hid h8
    clear h8 b8 k8 H7 X7 BW7 BL7 HG7 x0
    have r3 : w5.cell? ⟨rb, 3, none⟩ = some (.int .i64 (came : Int)) := H8.out.room.cell 3
    have r3f : w5.frozen? ⟨rb, 3, none⟩ = false := H8.out.room.free 3
    have x1 : w5.cell? ⟨xb, 1, none⟩ = some (.int .i64 (-1)) := X8.out.cell 1
    have x1f : w5.frozen? ⟨xb, 1, none⟩ = false := X8.out.free 1
    go_wp2_with fail
    clear r3 r3f x1 x1f
    have f9 := Fr.setCell w5 ⟨xb, 1, none⟩ (.int .i64 (came : Int))
    have X9 : Blk (w5.setCell ⟨xb, 1, none⟩ (.int .i64 (came : Int))) xb 153 #[.pointer (some ⟨wb, 0, none⟩), .int .i64 (came : Int), .bool false, .int .i64 0] := X8.out.set 1 _
    have H9 := H8.out.off f9 hxG.out fun k hk => HG8.out.lt (.inl (.inl hk))
    have HG9 := HG8.out.write f9 fun k e => ⟨.inl (.inr e), by have e : k = xb := e; rw [e]; exact hbase⟩
    have BW9 := f9.blk BW8.out (fun e => hwx e.symm)
    clear f9 H8 X8 HG8 BW8
    generalize w5.setCell ⟨xb, 1, none⟩ (.int .i64 (came : Int)) = w6 at *
    have f10 := Fr.setCell w6 ⟨rb, 3, none⟩ (.int .i64 ((came : Int) + 1))
    have X10 := Mm.hid (f10.blk X9 (fun e => blk_ne X9 H9.room (by decide) e))
    have H10 := Mm.hid ((H9.setCame ((came : Int) + 1)).grow (G' := fun k => G k ∨ k = wb) (fun k hk => .inl hk) (fun k hk => hk.elim (H9.geb k) fun e => e ▸ hwb))
    have HG10 := Mm.hid ((HG9.write f10 fun k e => ⟨.inl (.inl (by have e : k = rb := e; rw [e]; exact H9.grb)), by have e : k = rb := e; rw [e]; exact H9.geb _ H9.grb⟩).sub (G := fun k => G k ∨ k = wb) fun k hk => hk.imp (fun h => .inl h) fun h => h)
    have BW10 := Mm.hid (f10.blk BW9 (fun e => blk_ne BW9 H9.room (by decide) e))
    have HA := Mm.hid (fun j T2 (h2 : Ts[j]? = some T2) b (hb : T2.wb = some b) => HNW.out b (H9.wait j T2 h2 b hb).1)
    clear f10 X9 H9 HG9 BW9
    generalize w6.setCell ⟨rb, 3, none⟩ (.int .i64 ((came : Int) + 1)) = w7 at *
    have x0 : w7.cell? ⟨xb, 0, none⟩ = some (.pointer (some ⟨wb, 0, none⟩)) := X10.out.cell 0
    have x1 : w7.cell? ⟨xb, 1, none⟩ = some (.int .i64 (came : Int)) := X10.out.cell 1
    have x2 : w7.cell? ⟨xb, 2, none⟩ = some (.bool false) := X10.out.cell 2
    have x3 : w7.cell? ⟨xb, 3, none⟩ = some (.int .i64 0) := X10.out.cell 3
    have y2 : w7.cell? ⟨rb, 2, none⟩ = some (.slice (some ⟨tb, 0, none⟩) n cap) := H10.out.room.cell 2
    obtain ⟨y4, y5, y6, y7, z0, z1, z2, z3⟩ := H10.out.at HT.out ht
    simp only [Option.map] at y4
    go_region_law (fail)
    all_goals go_wp2
    all_goals go_ret
    all_goals exact ⟨rfl, RS.drew (move_fin ⟨some wb, ⟨y, true, false⟩, (came : Int), false, 0⟩ (by exact H10.out) HG10.out HT.out (by exact IN.out wb) (fun b hb => by cases hb; exact ⟨.inr rfl, BW10.out⟩) (fun j T2 hj h2 b hb => by cases hb; exact fun e => HA.out j T2 h2 wb e rfl))⟩
  · go_wp2_with fail
    refine (enter_any l1 _).mono ?_
    rintro e w2 ⟨rfl, hw2⟩
    rw [← q3] at hw2
    rw [← hw2] at H4 BW BA
    clear hw2 q1 q2 q3 r1 e0 e1
    have H5 := Mm.hid (H3.out.keep (w' := w2) fun k hk => BA.out.block k (HG1.out.lt (.inl hk)))
    have X5 := Mm.hid (BX.out.keep (BA.out.block _ hxw1))
    have BL5 := Mm.hid (BLK.out.keep (BA.out.block _ hGl))
    have hwb : base ≤ w1.heap.size := HG1.out.le
    have hwx : xb ≠ w1.heap.size := by omega
    have hlw : lkB l0 l1 t ≠ w1.heap.size := by omega
    clear x0 x1 x2 x3 BX HG1 H3 BLK BA hGl hxw1
    generalize w1.heap.size = wb at *
    have x0 : w2.cell? ⟨xb, 0, none⟩ = some (.pointer none) := X5.out.cell 0
    have x1 : w2.cell? ⟨xb, 1, none⟩ = some (.int .i64 (-1)) := X5.out.cell 1
    have x0f : w2.frozen? ⟨xb, 0, none⟩ = false := X5.out.free 0
    have x1f : w2.frozen? ⟨xb, 1, none⟩ = false := X5.out.free 1
    go_upto_region 5 with (fail)
    obtain ⟨b6, f6⟩ := box01 X5.out (.pointer (some ⟨wb, 0, none⟩)) (.int .i64 (-1))
    have X6 := Mm.hid b6
    have H6 := Mm.hid (H5.out.off f6 hxG.out fun k hk => H4.out.lt (.inl (.inl hk)))
    have HG6 := Mm.hid (H4.out.write f6 fun k e => ⟨.inl (.inr e), by have e : k = xb := e; rw [e]; exact hbase⟩)
    have BW6 := Mm.hid (f6.blk BW.out (fun e => hwx e.symm))
    have BL6 := Mm.hid (f6.blk BL5.out (fun e => blk_ne BL5.out X5.out (by decide) e))
    clear b6 f6 x0 x1 x0f x1f H5 X5 BL5 H4 BW
    generalize (w2.setCell ⟨xb, 0, none⟩ (.pointer (some ⟨wb, 0, none⟩))).setCell ⟨xb, 1, none⟩ (.int .i64 (-1)) = w3 at *
    have x0 : w3.cell? ⟨xb, 0, none⟩ = some (.pointer (some ⟨wb, 0, none⟩)) := X6.out.cell 0
    have x1 : w3.cell? ⟨xb, 1, none⟩ = some (.int .i64 (-1)) := X6.out.cell 1
    have x2 : w3.cell? ⟨xb, 2, none⟩ = some (.bool false) := X6.out.cell 2
    have x3 : w3.cell? ⟨xb, 3, none⟩ = some (.int .i64 0) := X6.out.cell 3
    go_wp2_with fail
    refine (ready_any HG6.out 1 2 x W2.out wb (lkB l0 l1 t) ⟨0, false, false⟩ (.inr rfl) BW6.out BL6.out).mono ?_
    rw [A1.out]
    rintro e w4 ⟨rfl, h7, k7⟩
    have H7 := Mm.hid (H6.out.keep fun k hk => k7 k (.inl (.inl hk)))
    have X7 := Mm.hid (X6.out.keep (k7 _ (.inl (.inr rfl))))
    have BW7 := Mm.hid (BW6.out.keep (k7 _ (.inr rfl)))
    have BL7 := Mm.hid (BL6.out.keep (k7 _ (.inl (.inl GL.out))))
    have HG7 := Mm.hid h7
    clear h7 k7 H6 X6 BW6 BL6 HG6 x0 x1 x2 x3
    have x0 : w4.cell? ⟨xb, 0, none⟩ = some (.pointer (some ⟨wb, 0, none⟩)) := X7.out.cell 0
    go_wp2_with fail
    refine (step_any HG7.out 1 2 wb (lkB l0 l1 t) ⟨0, false, false⟩ (.inr rfl) hwb (.inl (.inl GL.out)) hlw BW7.out BL7.out hB8.out hT8.out).mono ?_
    rw [A2.out]
    rintro e w5 ⟨rfl, h8, b8, k8⟩
    have H8 := Mm.hid (H7.out.keep fun k hk => k8 k (.inl (.inl hk)) (HNW.out k hk))
    have X8 := Mm.hid (X7.out.keep (k8 _ (.inl (.inr rfl)) hwx))
    have BW8 := Mm.hid b8
    have HG8 := Mm.hid h8
    clear h8 b8 k8 H7 X7 BW7 BL7 HG7 x0
    have r3 : w5.cell? ⟨rb, 3, none⟩ = some (.int .i64 (came : Int)) := H8.out.room.cell 3
    have r3f : w5.frozen? ⟨rb, 3, none⟩ = false := H8.out.room.free 3
    have x1 : w5.cell? ⟨xb, 1, none⟩ = some (.int .i64 (-1)) := X8.out.cell 1
    have x1f : w5.frozen? ⟨xb, 1, none⟩ = false := X8.out.free 1
    go_wp2_with fail
    clear r3 r3f x1 x1f
    have f9 := Fr.setCell w5 ⟨xb, 1, none⟩ (.int .i64 (came : Int))
    have X9 : Blk (w5.setCell ⟨xb, 1, none⟩ (.int .i64 (came : Int))) xb 153 #[.pointer (some ⟨wb, 0, none⟩), .int .i64 (came : Int), .bool false, .int .i64 0] := X8.out.set 1 _
    have H9 := H8.out.off f9 hxG.out fun k hk => HG8.out.lt (.inl (.inl hk))
    have HG9 := HG8.out.write f9 fun k e => ⟨.inl (.inr e), by have e : k = xb := e; rw [e]; exact hbase⟩
    have BW9 := f9.blk BW8.out (fun e => hwx e.symm)
    clear f9 H8 X8 HG8 BW8
    generalize w5.setCell ⟨xb, 1, none⟩ (.int .i64 (came : Int)) = w6 at *
    have f10 := Fr.setCell w6 ⟨rb, 3, none⟩ (.int .i64 ((came : Int) + 1))
    have X10 := Mm.hid (f10.blk X9 (fun e => blk_ne X9 H9.room (by decide) e))
    have H10 := Mm.hid ((H9.setCame ((came : Int) + 1)).grow (G' := fun k => G k ∨ k = wb) (fun k hk => .inl hk) (fun k hk => hk.elim (H9.geb k) fun e => e ▸ hwb))
    have HG10 := Mm.hid ((HG9.write f10 fun k e => ⟨.inl (.inl (by have e : k = rb := e; rw [e]; exact H9.grb)), by have e : k = rb := e; rw [e]; exact H9.geb _ H9.grb⟩).sub (G := fun k => G k ∨ k = wb) fun k hk => hk.imp (fun h => .inl h) fun h => h)
    have BW10 := Mm.hid (f10.blk BW9 (fun e => blk_ne BW9 H9.room (by decide) e))
    have HA := Mm.hid (fun j T2 (h2 : Ts[j]? = some T2) b (hb : T2.wb = some b) => HNW.out b (H9.wait j T2 h2 b hb).1)
    clear f10 X9 H9 HG9 BW9
    generalize w6.setCell ⟨rb, 3, none⟩ (.int .i64 ((came : Int) + 1)) = w7 at *
    have x0 : w7.cell? ⟨xb, 0, none⟩ = some (.pointer (some ⟨wb, 0, none⟩)) := X10.out.cell 0
    have x1 : w7.cell? ⟨xb, 1, none⟩ = some (.int .i64 (came : Int)) := X10.out.cell 1
    have x2 : w7.cell? ⟨xb, 2, none⟩ = some (.bool false) := X10.out.cell 2
    have x3 : w7.cell? ⟨xb, 3, none⟩ = some (.int .i64 0) := X10.out.cell 3
    have y2 : w7.cell? ⟨rb, 2, none⟩ = some (.slice (some ⟨tb, 0, none⟩) n cap) := H10.out.room.cell 2
    obtain ⟨y4, y5, y6, y7, z0, z1, z2, z3⟩ := H10.out.at HT.out ht
    simp only [Option.map] at y4
    go_region_law (fail)
    all_goals go_wp2
    all_goals go_ret
    all_goals exact ⟨rfl, RS.drew (move_fin ⟨some wb, ⟨y, true, false⟩, (came : Int), false, 0⟩ (by exact H10.out) HG10.out HT.out (by exact IN.out wb) (fun b hb => by cases hb; exact ⟨.inr rfl, BW10.out⟩) (fun j T2 hj h2 b hb => by cases hb; exact fun e => HA.out j T2 h2 wb e rfl))⟩
end
end Go.Proofs.Ytkbobgblohohcaa

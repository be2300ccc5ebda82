/- Walks: a task's move. -/
import Derived.Test.YtkbobgblohohcaaTurnP
import Derived.Deep.RegionLaw
import Derived.Deep.CutRange
import Derived.Deep.CutBlock
namespace Go.Proofs.Ytkbobgblohohcaa
open Go.RowKit Go.Mm Go.Cells
def RS (base g : Nat) (w0 : World) (rb lL l0 l1 tb n cap : Nat) (bg : Int) (k : Nat) (w : World) : Prop := ∃ (G : Nat → Prop) (v : Value) (S : Cm) (Ts : List Tk) (came left m : Nat), RM base g G rb lL l0 l1 tb n cap Ts (came : Int) (left : Int) v (ordL m) w ∧ HasG base g w0 G S w ∧ Inv bg k n S Ts came left m
def MoveE (base g : Nat) (w0 : World) (rb lL l0 l1 tb n cap : Nat) (bg : Int) (k : Nat) (e : Ending) (w' : World) : Prop := e = .returned (.bool true) ∧ RS base g w0 rb lL l0 l1 tb n cap bg k w'
section
variable {base g : Nat} {w0 : World} {G : Nat → Prop} {rb lL l0 l1 tb n cap k t : Nat} {bg : Int} {Ts : List Tk} {came left m : Nat} {v : Value} {w : World} {S : Cm}
theorem RS.drew (h : RS base g w0 rb lL l0 l1 tb n cap bg k w) : RS base g w0 rb lL l0 l1 tb n cap bg k w.drew := by
  obtain ⟨G, v, S, Ts, came, left, m, h1, h2, h3⟩ := h
  exact ⟨G, v, S, Ts, came, left, m, h1.keep fun _ _ => rfl, h2.write (Fr.drew (fun _ => False) w) (fun _ h => h.elim), h3⟩
theorem move_fin {T : Tk} (T' : Tk) (H : RM base g G rb lL l0 l1 tb n cap Ts (came : Int) (left : Int) v (ordL m) w) (HG : HasG base g w0 G S w) (hT : Ts[t]? = some T) (hI : Inv bg k n S (Ts.set t T') came left m)
    (hw : ∀ b, T'.wb = some b → G b ∧ Blk w b 150 #[.pointer (some ⟨lkB l0 l1 t, 0, none⟩), .int .i64 T'.W.num, .bool T'.W.drawn, .bool T'.W.holds])
    (ha : ∀ j T2, j ≠ t → Ts[j]? = some T2 → ∀ b, T'.wb = some b → T2.wb ≠ some b) :
    RS base g w0 rb lL l0 l1 tb n cap bg k ((((w.setCell ⟨tb, t * 4, none⟩ (.pointer (T'.wb.map fun b => ⟨b, 0, none⟩))).setCell ⟨tb, t * 4 + 1, none⟩ (.int .i64 T'.num)).setCell ⟨tb, t * 4 + 2, none⟩ (.bool T'.holds)).setCell ⟨tb, t * 4 + 3, none⟩ (.int .i64 T'.stays)) := by
  have hf := (((Fr.setCell w ⟨tb, t * 4, none⟩ (.pointer (T'.wb.map fun b => ⟨b, 0, none⟩))).trans (Fr.setCell _ ⟨tb, t * 4 + 1, none⟩ (.int .i64 T'.num)) fun _ _ h => h).trans (Fr.setCell _ ⟨tb, t * 4 + 2, none⟩ (.bool T'.holds)) fun _ _ h => h).trans (Fr.setCell _ ⟨tb, t * 4 + 3, none⟩ (.int .i64 T'.stays)) fun _ _ h => h
  exact ⟨G, v, S, _, came, left, m, H.task T' hT hw ha, HG.write hf fun k (e : k = tb) => ⟨e ▸ H.gtb, e ▸ H.geb _ H.gtb⟩, hI⟩
set_option maxRecDepth 100000 in
set_option maxHeartbeats 1000000 in
theorem move_stay (st : Int) (H0 : Hid (RM base g G rb lL l0 l1 tb n cap Ts (came : Int) (left : Int) v (ordL m) w)) (H1 : Hid (HasG base g w0 G S w)) (H2 : Hid (Inv bg k n S Ts came left m)) (ht : t < n) (_ : n ≤ 8) (wb : Nat) (num stays : Int) (W : Wt)
    (HT : Hid (Ts[t]? = some ⟨some wb, W, num, true, stays⟩)) (hs : 0 < stays) (hs6 : stays ≤ 6) :
    Calls Try.prog 49 #[.pointer (some ⟨rb, 0, none⟩), .int .i64 (t : Int), .int .i64 st] w (MoveE base g w0 rb lL l0 l1 tb n cap bg (k + 1)) := by
  have r2 : w.cell? ⟨rb, 2, none⟩ = some (.slice (some ⟨tb, 0, none⟩) n cap) := H0.out.room.cell 2
  obtain ⟨c0, c1, c2, c3, _, _, _, _⟩ := H0.out.at HT.out ht
  simp only [Option.map] at c0
  go_enter Try.func49, Try.ntmps49
  go_wp2_with fail
  have BX := Mm.hid (Blk.new w #[.pointer (some ⟨wb, 0, none⟩), .int .i64 num, .bool true, .int .i64 (stays - 1)] 153)
  have BL := Mm.hid ((Below.refl w.heap.size w).alloc (Nat.le_refl _) (.cells #[.pointer (some ⟨wb, 0, none⟩), .int .i64 num, .bool true, .int .i64 (stays - 1)] 153))
  generalize w.alloc (.cells #[.pointer (some ⟨wb, 0, none⟩), .int .i64 num, .bool true, .int .i64 (stays - 1)] 153) = w1 at *
  have x0 : w1.cell? ⟨w.heap.size, 0, none⟩ = some (.pointer (some ⟨wb, 0, none⟩)) := BX.out.cell 0
  have x1 : w1.cell? ⟨w.heap.size, 1, none⟩ = some (.int .i64 num) := BX.out.cell 1
  have x2 : w1.cell? ⟨w.heap.size, 2, none⟩ = some (.bool true) := BX.out.cell 2
  have x3 : w1.cell? ⟨w.heap.size, 3, none⟩ = some (.int .i64 (stays - 1)) := BX.out.cell 3
  have KG : Hid (∀ k, G k → w1.heap[k]? = w.heap[k]?) := fun k hk => BL.out.block k (H1.out.lt hk)
  have H3 := Mm.hid (H0.out.keep KG.out)
  have y2 : w1.cell? ⟨rb, 2, none⟩ = some (.slice (some ⟨tb, 0, none⟩) n cap) := H3.out.room.cell 2
  have HG3 := Mm.hid (H1.out.after BL.out).1
  have IN := Mm.hid (H2.out.stay HT.out rfl hs)
  obtain ⟨y4, y5, y6, y7, z0, z1, z2, z3⟩ := H3.out.at HT.out ht
  simp only [Option.map] at y4
  clear r2 c0 c1 c2 c3
  go_region_law (fail)
  all_goals go_wp2
  all_goals go_ret
  all_goals exact ⟨rfl, RS.drew (move_fin ⟨some wb, W, num, true, stays - 1⟩ H3.out HG3.out HT.out IN.out (fun b hb => H3.out.wait t _ HT.out b hb) (fun j T2 hj h2 b hb => H3.out.apart t j _ T2 (Ne.symm hj) HT.out h2 b hb))⟩
theorem box4 {W : World} {xb : Nat} {p0 p1 p2 p3 : Value} (h : Blk W xb 153 #[p0, p1, p2, p3]) (q0 q1 q2 q3 : Value) :
    Blk ((((W.setCell ⟨xb, 0, none⟩ q0).setCell ⟨xb, 1, none⟩ q1).setCell ⟨xb, 2, none⟩ q2).setCell ⟨xb, 3, none⟩ q3) xb 153 #[q0, q1, q2, q3] ∧ Fr (· = xb) W ((((W.setCell ⟨xb, 0, none⟩ q0).setCell ⟨xb, 1, none⟩ q1).setCell ⟨xb, 2, none⟩ q2).setCell ⟨xb, 3, none⟩ q3) := by
  have h0 : Blk _ xb 153 #[q0, p1, p2, p3] := h.set 0 q0
  have h1 : Blk _ xb 153 #[q0, q1, p2, p3] := h0.set 1 q1
  have h2 : Blk _ xb 153 #[q0, q1, q2, p3] := h1.set 2 q2
  exact ⟨h2.set 3 q3, (((Fr.setCell W ⟨xb, 0, none⟩ q0).trans (Fr.setCell _ ⟨xb, 1, none⟩ q1) fun _ _ h => h).trans (Fr.setCell _ ⟨xb, 2, none⟩ q2) fun _ _ h => h).trans (Fr.setCell _ ⟨xb, 3, none⟩ q3) fun _ _ h => h⟩
theorem RM.off {Ts : List Tk} {came left : Int} {ord : List Int} {w' : World} {xb : Nat} (h : RM base g G rb lL l0 l1 tb n cap Ts came left v ord w) (hf : Fr (· = xb) w w') (hx : ∀ k, G k → k ≠ xb) (hl : ∀ k, G k → k < w.heap.size) : RM base g G rb lL l0 l1 tb n cap Ts came left v ord w' := h.keep fun k hk => hf.block k (hl k hk) (hx k hk)
theorem parity (t : Nat) : ((t : Int).tmod 2 = 0 ∧ ((t : Int) + 1).tmod 2 = 1 ∧ lkB l0 l1 t = l0) ∨ ((t : Int).tmod 2 = 1 ∧ ((t : Int) + 1).tmod 2 = 0 ∧ lkB l0 l1 t = l1) := by
  unfold lkB
  rcases Nat.mod_two_eq_zero_or_one t with h | h
  · left; refine ⟨by rw [Int.tmod_eq_emod_of_nonneg (by omega)]; omega, by rw [Int.tmod_eq_emod_of_nonneg (by omega)]; omega, if_pos h⟩
  · right; refine ⟨by rw [Int.tmod_eq_emod_of_nonneg (by omega)]; omega, by rw [Int.tmod_eq_emod_of_nonneg (by omega)]; omega, if_neg (by omega)⟩
set_option maxRecDepth 100000 in
set_option maxHeartbeats 1000000 in
theorem move_leave (st : Int) (H0 : Hid (RM base g G rb lL l0 l1 tb n cap Ts (came : Int) (left : Int) v (ordL m) w)) (H1 : Hid (HasG base g w0 G S w)) (H2 : Hid (Inv bg k n S Ts came left m)) (ht : t < n) (_ : n ≤ 8) (wb : Nat) (num : Int) (W : Wt)
    (HT : Hid (Ts[t]? = some ⟨some wb, W, num, true, 0⟩)) (hp : Hid (wrap64 (bg + (left : Int)) ≠ poison)) (hk : k ≤ 1048576) (hl : left ≤ 1048576) :
    Calls Try.prog 49 #[.pointer (some ⟨rb, 0, none⟩), .int .i64 (t : Int), .int .i64 st] w (MoveE base g w0 rb lL l0 l1 tb n cap bg (k + 1)) := by
  have r1 : w.cell? ⟨rb, 1, none⟩ = some (.slice (some ⟨lL, 0, none⟩) 2 2) := H0.out.room.cell 1
  have r2 : w.cell? ⟨rb, 2, none⟩ = some (.slice (some ⟨tb, 0, none⟩) n cap) := H0.out.room.cell 2
  have e0 : w.cell? ⟨lL, 0, none⟩ = some (.pointer (some ⟨l0, 0, none⟩)) := H0.out.locks.cell 0
  have e1 : w.cell? ⟨lL, 1, none⟩ = some (.pointer (some ⟨l1, 0, none⟩)) := H0.out.locks.cell 1
  obtain ⟨c0, c1, c2, c3, _, _, _, _⟩ := H0.out.at HT.out ht
  simp only [Option.map] at c0
  have A0 : Hid ((S.look 2).2 = 0) := by show _ = _; rw [show S.look 2 = _ from (look_good (i := 2) H2.out.w2 hp.out).1]
  have BX := Mm.hid (Blk.new w #[.pointer (some ⟨wb, 0, none⟩), .int .i64 num, .bool true, .int .i64 0] 153)
  have HG1 := Mm.hid (H1.out.grow (.cells #[.pointer (some ⟨wb, 0, none⟩), .int .i64 num, .bool true, .int .i64 0] 153))
  have BL := Mm.hid ((Below.refl w.heap.size w).alloc (Nat.le_refl _) (.cells #[.pointer (some ⟨wb, 0, none⟩), .int .i64 num, .bool true, .int .i64 0] 153))
  go_enter Try.func49, Try.ntmps49
  go_upto_region 2 with (fail)
  generalize w.alloc (.cells #[.pointer (some ⟨wb, 0, none⟩), .int .i64 num, .bool true, .int .i64 0] 153) = w1 at *
  have KG : Hid (∀ k, G k → w1.heap[k]? = w.heap[k]?) := fun k hk => BL.out.block k (H1.out.lt hk)
  have H3 := Mm.hid (H0.out.keep KG.out)
  have hxG : Hid (∀ k, G k → k ≠ w.heap.size) := fun k hk e => by have := H1.out.lt hk; omega
  clear r1 r2 e0 e1 c0 c1 c2 c3 KG H0
  have r1 : w1.cell? ⟨rb, 1, none⟩ = some (.slice (some ⟨lL, 0, none⟩) 2 2) := H3.out.room.cell 1
  have e0 : w1.cell? ⟨lL, 0, none⟩ = some (.pointer (some ⟨l0, 0, none⟩)) := H3.out.locks.cell 0
  have e1 : w1.cell? ⟨lL, 1, none⟩ = some (.pointer (some ⟨l1, 0, none⟩)) := H3.out.locks.cell 1
  have x0 : w1.cell? ⟨w.heap.size, 0, none⟩ = some (.pointer (some ⟨wb, 0, none⟩)) := BX.out.cell 0
  have x1 : w1.cell? ⟨w.heap.size, 1, none⟩ = some (.int .i64 num) := BX.out.cell 1
  have x2 : w1.cell? ⟨w.heap.size, 2, none⟩ = some (.bool true) := BX.out.cell 2
  have x3 : w1.cell? ⟨w.heap.size, 3, none⟩ = some (.int .i64 0) := BX.out.cell 3
  have hbase := H1.out.le
  have hT8 : Hid ((S.tr.length + 1) * 40 ≤ 140737488355328) := by show _ ≤ _; have := H2.out.tr; omega
  have hB8 : Hid (S.bad ≤ 4611686018427387904) := by show _ ≤ _; have := H2.out.bad; omega
  obtain ⟨q1, q2, _⟩ | ⟨q1, q2, _⟩ := parity (l0 := l0) (l1 := l1) t
  · go_wp2_with fail
    refine (leave_any HG1.out 1 2 l1 H3.out.lk1 hB8.out hT8.out).mono ?_
    rintro e w2 ⟨rfl, h4, k4⟩
    rw [A0.out]
    clear r1 e0 e1 x0 x1 x2 x3
    have H4 := Mm.hid (H3.out.keep fun k hk => k4 k (.inl hk))
    have X4 := Mm.hid (BX.out.keep (k4 _ (.inr rfl)))
    have HG4 := Mm.hid h4
    clear h4 k4 H3 BX HG1
    have r4 : w2.cell? ⟨rb, 4, none⟩ = some (.int .i64 (left : Int)) := H4.out.room.cell 4
    have r4f : w2.frozen? ⟨rb, 4, none⟩ = false := H4.out.room.free 4
    have x0 : w2.cell? ⟨w.heap.size, 0, none⟩ = some (.pointer (some ⟨wb, 0, none⟩)) := X4.out.cell 0
    have x1 : w2.cell? ⟨w.heap.size, 1, none⟩ = some (.int .i64 num) := X4.out.cell 1
    have x2 : w2.cell? ⟨w.heap.size, 2, none⟩ = some (.bool true) := X4.out.cell 2
    have x3 : w2.cell? ⟨w.heap.size, 3, none⟩ = some (.int .i64 0) := X4.out.cell 3
    have x0f : w2.frozen? ⟨w.heap.size, 0, none⟩ = false := X4.out.free 0
    have x1f : w2.frozen? ⟨w.heap.size, 1, none⟩ = false := X4.out.free 1
    have x2f : w2.frozen? ⟨w.heap.size, 2, none⟩ = false := X4.out.free 2
    have x3f : w2.frozen? ⟨w.heap.size, 3, none⟩ = false := X4.out.free 3
    go_wp2_with fail
    have G0 : Hid (HasG base g w0 (fun k => G k ∨ k = w.heap.size) (S.add 2 1) (w2.setCell ⟨rb, 4, none⟩ (.int .i64 ((left : Int) + 1)))) := HG4.out.write (Fr.setCell _ _ _) fun k (e : k = rb) => ⟨.inl (e ▸ H4.out.grb), e ▸ H4.out.geb _ H4.out.grb⟩
    have H5 := Mm.hid (H4.out.setLeft ((left : Int) + 1))
    have X5 := Mm.hid (X4.out.keep ((Fr.setCell w2 ⟨rb, 4, none⟩ (.int .i64 ((left : Int) + 1))).block _ X4.out.lt fun e => blk_ne X4.out H4.out.room (by decide) e))
    generalize w2.setCell ⟨rb, 4, none⟩ (.int .i64 ((left : Int) + 1)) = w3 at *
    clear r4 r4f x0 x1 x2 x3 x0f x1f x2f x3f H4 X4 HG4
    obtain ⟨b6, f6⟩ := box4 X5.out (.pointer none) (.int .i64 (-1)) (.bool false) (.int .i64 0)
    have X6 := Mm.hid b6
    have H6 := Mm.hid (H5.out.off f6 hxG.out fun k hk => G0.out.lt (.inl hk))
    have G6 := Mm.hid ((G0.out.write f6 fun k e => ⟨.inr e, by have e : k = w.heap.size := e; rw [e]; exact hbase⟩).sub fun k (hk : G k) => .inl hk)
    clear b6 f6 H5 X5 G0
    generalize (((w3.setCell ⟨w.heap.size, 0, none⟩ (.pointer none)).setCell ⟨w.heap.size, 1, none⟩ (.int .i64 (-1))).setCell ⟨w.heap.size, 2, none⟩ (.bool false)).setCell ⟨w.heap.size, 3, none⟩ (.int .i64 0) = w4 at *
    have IN := Mm.hid (H2.out.leave HT.out rfl hp.out W)
    have x0 : w4.cell? ⟨w.heap.size, 0, none⟩ = some (.pointer none) := X6.out.cell 0
    have x1 : w4.cell? ⟨w.heap.size, 1, none⟩ = some (.int .i64 (-1)) := X6.out.cell 1
    have x2 : w4.cell? ⟨w.heap.size, 2, none⟩ = some (.bool false) := X6.out.cell 2
    have x3 : w4.cell? ⟨w.heap.size, 3, none⟩ = some (.int .i64 0) := X6.out.cell 3
    have y2 : w4.cell? ⟨rb, 2, none⟩ = some (.slice (some ⟨tb, 0, none⟩) n cap) := H6.out.room.cell 2
    obtain ⟨y4, y5, y6, y7, z0, z1, z2, z3⟩ := H6.out.at HT.out ht
    simp only [Option.map] at y4
    go_region_law (fail)
    all_goals go_wp2
    all_goals go_ret
    all_goals exact ⟨rfl, RS.drew (move_fin ⟨none, W, -1, false, 0⟩ (by exact H6.out) G6.out HT.out (by exact IN.out) (fun b hb => by cases hb) (fun j T2 hj h2 b hb => by cases hb))⟩
  · go_wp2_with fail
    refine (leave_any HG1.out 1 2 l0 H3.out.lk0 hB8.out hT8.out).mono ?_
    rintro e w2 ⟨rfl, h4, k4⟩
    rw [A0.out]
    clear r1 e0 e1 x0 x1 x2 x3
    have H4 := Mm.hid (H3.out.keep fun k hk => k4 k (.inl hk))
    have X4 := Mm.hid (BX.out.keep (k4 _ (.inr rfl)))
    have HG4 := Mm.hid h4
    clear h4 k4 H3 BX HG1
    have r4 : w2.cell? ⟨rb, 4, none⟩ = some (.int .i64 (left : Int)) := H4.out.room.cell 4
    have r4f : w2.frozen? ⟨rb, 4, none⟩ = false := H4.out.room.free 4
    have x0 : w2.cell? ⟨w.heap.size, 0, none⟩ = some (.pointer (some ⟨wb, 0, none⟩)) := X4.out.cell 0
    have x1 : w2.cell? ⟨w.heap.size, 1, none⟩ = some (.int .i64 num) := X4.out.cell 1
    have x2 : w2.cell? ⟨w.heap.size, 2, none⟩ = some (.bool true) := X4.out.cell 2
    have x3 : w2.cell? ⟨w.heap.size, 3, none⟩ = some (.int .i64 0) := X4.out.cell 3
    have x0f : w2.frozen? ⟨w.heap.size, 0, none⟩ = false := X4.out.free 0
    have x1f : w2.frozen? ⟨w.heap.size, 1, none⟩ = false := X4.out.free 1
    have x2f : w2.frozen? ⟨w.heap.size, 2, none⟩ = false := X4.out.free 2
    have x3f : w2.frozen? ⟨w.heap.size, 3, none⟩ = false := X4.out.free 3
    go_wp2_with fail
    have G0 : Hid (HasG base g w0 (fun k => G k ∨ k = w.heap.size) (S.add 2 1) (w2.setCell ⟨rb, 4, none⟩ (.int .i64 ((left : Int) + 1)))) := HG4.out.write (Fr.setCell _ _ _) fun k (e : k = rb) => ⟨.inl (e ▸ H4.out.grb), e ▸ H4.out.geb _ H4.out.grb⟩
    have H5 := Mm.hid (H4.out.setLeft ((left : Int) + 1))
    have X5 := Mm.hid (X4.out.keep ((Fr.setCell w2 ⟨rb, 4, none⟩ (.int .i64 ((left : Int) + 1))).block _ X4.out.lt fun e => blk_ne X4.out H4.out.room (by decide) e))
    generalize w2.setCell ⟨rb, 4, none⟩ (.int .i64 ((left : Int) + 1)) = w3 at *
    clear r4 r4f x0 x1 x2 x3 x0f x1f x2f x3f H4 X4 HG4
    obtain ⟨b6, f6⟩ := box4 X5.out (.pointer none) (.int .i64 (-1)) (.bool false) (.int .i64 0)
    have X6 := Mm.hid b6
    have H6 := Mm.hid (H5.out.off f6 hxG.out fun k hk => G0.out.lt (.inl hk))
    have G6 := Mm.hid ((G0.out.write f6 fun k e => ⟨.inr e, by have e : k = w.heap.size := e; rw [e]; exact hbase⟩).sub fun k (hk : G k) => .inl hk)
    clear b6 f6 H5 X5 G0
    generalize (((w3.setCell ⟨w.heap.size, 0, none⟩ (.pointer none)).setCell ⟨w.heap.size, 1, none⟩ (.int .i64 (-1))).setCell ⟨w.heap.size, 2, none⟩ (.bool false)).setCell ⟨w.heap.size, 3, none⟩ (.int .i64 0) = w4 at *
    have IN := Mm.hid (H2.out.leave HT.out rfl hp.out W)
    have x0 : w4.cell? ⟨w.heap.size, 0, none⟩ = some (.pointer none) := X6.out.cell 0
    have x1 : w4.cell? ⟨w.heap.size, 1, none⟩ = some (.int .i64 (-1)) := X6.out.cell 1
    have x2 : w4.cell? ⟨w.heap.size, 2, none⟩ = some (.bool false) := X6.out.cell 2
    have x3 : w4.cell? ⟨w.heap.size, 3, none⟩ = some (.int .i64 0) := X6.out.cell 3
    have y2 : w4.cell? ⟨rb, 2, none⟩ = some (.slice (some ⟨tb, 0, none⟩) n cap) := H6.out.room.cell 2
    obtain ⟨y4, y5, y6, y7, z0, z1, z2, z3⟩ := H6.out.at HT.out ht
    simp only [Option.map] at y4
    go_region_law (fail)
    all_goals go_wp2
    all_goals go_ret
    all_goals exact ⟨rfl, RS.drew (move_fin ⟨none, W, -1, false, 0⟩ (by exact H6.out) G6.out HT.out (by exact IN.out) (fun b hb => by cases hb) (fun j T2 hj h2 b hb => by cases hb))⟩
end
end Go.Proofs.Ytkbobgblohohcaa

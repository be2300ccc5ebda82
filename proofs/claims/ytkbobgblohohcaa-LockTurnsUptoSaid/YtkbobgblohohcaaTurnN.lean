/- Walks: a task's move, where it waits. -/
import Derived.Test.YtkbobgblohohcaaTurnM
namespace Go.Proofs.Ytkbobgblohohcaa
open Go.RowKit Go.Mm Go.Cells
section
variable {base g : Nat} {w0 : World} {G : Nat → Prop} {rb lL l0 l1 tb n cap k t : Nat} {bg : Int} {Ts : List Tk} {came left m : Nat} {v : Value} {w : World} {S : Cm}
theorem RM.lk {Ts : List Tk} {came left : Int} {ord : List Int} (h : RM base g G rb lL l0 l1 tb n cap Ts came left v ord w) (t : Nat) : Blk w (lkB l0 l1 t) 146 #[.pointer (some ⟨g, 0, none⟩), .int .i64 1, .int .i64 2] ∧ G (lkB l0 l1 t) := by
  unfold lkB
  split
  · exact ⟨h.lk0, h.g0⟩
  · exact ⟨h.lk1, h.g1⟩
theorem HasG.more (h : HasG base g w0 G S w) {T : Nat → Prop} {w' : World} (hf : Fr T w w') (hT : ∀ k, T k → G k ∧ base ≤ k) : HasG base g w0 (fun k => G k ∨ (w.heap.size ≤ k ∧ k < w'.heap.size)) S w' := by
  obtain ⟨F, h1, h2, h3⟩ := h.out
  have hle : base ≤ w.heap.size := by have := h1.lt g h1.fg; omega
  refine ⟨F, h1.fr hf fun k hk ht => (h3 k (hT k ht).1).2 hk, h2.trans (hf.below (fun k hk => (hT k hk).2) hle), fun k hk => ?_⟩
  rcases hk with hk | hk
  · exact ⟨Nat.lt_of_lt_of_le (h3 k hk).1 hf.size, (h3 k hk).2⟩
  · exact ⟨hk.2, fun hF => by have := (h1.lt k hF).2; omega⟩
theorem RM.push {Ts : List Tk} {came left : Int} {W w6 : World} {v1 : Value} (h : RM base g G rb lL l0 l1 tb n cap Ts came left v (ordL m) w) (hb : base ≤ w.heap.size) (FA : Fr (fun _ => False) w W) (K1 : w6.ownsRow base 3 1 v1 (m + 1) (iL (ordL m) ++ [.int .i64 (m : Int)])) (K3 : W.grownBy w6 v.ownBlock) (K4 : v1.ownBlock = v.ownBlock ∨ v1.ownBlock = some W.heap.size) :
    RM base g (fun k => G k ∨ (w.heap.size ≤ k ∧ k < w6.heap.size)) rb lL l0 l1 tb n cap Ts came left v1 (ordL (m + 1)) (w6.setCell ⟨rb, 5, none⟩ v1) ∧ Fr (fun k => v.ownBlock = some k ∨ k = rb) w (w6.setCell ⟨rb, 5, none⟩ v1) := by
  have hf1 : Fr (fun k => v.ownBlock = some k) w w6 := (FA.mono (T := fun k => v.ownBlock = some k) fun _ h => h.elim).trans (Fr.grown K3) fun _ _ h => h
  have hs := Fr.setCell w6 ⟨rb, 5, none⟩ v1
  have nv : ∀ {b t : Nat} {cs : Array Value}, Blk w b t cs → t ≠ 3 → ¬ v.ownBlock = some b := fun hb ht => h.v_ne hb ht
  have R6 := hf1.blk h.room (nv h.room (by decide))
  refine ⟨⟨?_, .inl h.grb, .inl h.gL, .inl h.g0, .inl h.g1, .inl h.gtb, ?_, R6.set 5 v1, hs.blk (hf1.blk h.locks (nv h.locks (by decide))) (blk_ne h.locks h.room (by decide)), hs.blk (hf1.blk h.lk0 (nv h.lk0 (by decide))) (blk_ne h.lk0 h.room (by decide)), hs.blk (hf1.blk h.lk1 (nv h.lk1 (by decide))) (blk_ne h.lk1 h.room (by decide)), ?_, ?_, ?_, h.apart⟩, ?_⟩
  · rintro k (hk | hk)
    · exact h.geb k hk
    · omega
  · intro b hb'
    rcases K4 with e | e
    · exact .inl (h.gv b (e ▸ hb'))
    · right
      have h2 := (own_lt K1 hb').2
      rw [hb'] at e
      injection e with e
      have := FA.size
      omega
  · exact hs.own (hf1.own h.tasks fun b hb' e => own_own_ne h.order h.tasks (by decide) e hb') fun b hb' e => h.tb_ne h.room (by decide) (by injection hb' with hb'; have e : b = rb := e; rw [← e]; exact hb'.symm)
  · have e1 : (ordL (m + 1)).length = m + 1 := ordL_len _
    rw [e1, ← ordL_snoc, ← iL_snoc]
    exact hs.own K1 fun b hb' e => own_ne K1 R6 (by decide) (by rw [hb', show b = rb from e])
  · intro i T hT b hb'
    obtain ⟨q1, q2⟩ := h.wait i T hT b hb'
    exact ⟨.inl q1, hs.blk (hf1.blk q2 (nv q2 (by decide))) (blk_ne q2 h.room (by decide))⟩
  · exact (hf1.mono fun k hk => .inl hk).trans hs fun k _ e => .inr e
theorem box2 {W : World} {xb : Nat} {p0 p1 p2 p3 : Value} (h : Blk W xb 153 #[p0, p1, p2, p3]) (q2 q3 : Value) :
    Blk ((W.setCell ⟨xb, 2, none⟩ q2).setCell ⟨xb, 3, none⟩ q3) xb 153 #[p0, p1, q2, q3] ∧ Fr (· = xb) W ((W.setCell ⟨xb, 2, none⟩ q2).setCell ⟨xb, 3, none⟩ q3) := by
  have h2 : Blk _ xb 153 #[p0, p1, q2, p3] := h.set 2 q2
  exact ⟨h2.set 3 q3, (Fr.setCell W ⟨xb, 2, none⟩ q2).trans (Fr.setCell _ ⟨xb, 3, none⟩ q3) fun _ _ h => h⟩
set_option maxRecDepth 100000 in
set_option maxHeartbeats 2000000 in
theorem move_wait (st : Int) (H0 : Hid (RM base g G rb lL l0 l1 tb n cap Ts (came : Int) (left : Int) v (ordL m) w)) (H1 : Hid (HasG base g w0 G S w)) (H2 : Hid (Inv bg k n S Ts came left m)) (ht : t < n) (_ : n ≤ 8) (wb q : Nat) (stays : Int)
    (HT : Hid (Ts[t]? = some ⟨some wb, ⟨wrap64 (bg + (q : Int)), true, false⟩, (q : Int), false, stays⟩)) (hq1 : left ≤ q) (hq2 : q < came) (hp : Hid (wrap64 (bg + (left : Int)) ≠ poison)) (hk : k ≤ 1048576) (hl : came ≤ 1048576) (hs0 : 0 ≤ st) (hs6 : st ≤ 6) :
    Calls Try.prog 49 #[.pointer (some ⟨rb, 0, none⟩), .int .i64 (t : Int), .int .i64 st] w (MoveE base g w0 rb lL l0 l1 tb n cap bg (k + 1)) := by
  have r2 : w.cell? ⟨rb, 2, none⟩ = some (.slice (some ⟨tb, 0, none⟩) n cap) := H0.out.room.cell 2
  obtain ⟨c0, c1, c2, c3, _, _, _, _⟩ := H0.out.at HT.out ht
  simp only [Option.map] at c0
  have BX := Mm.hid (Blk.new w #[.pointer (some ⟨wb, 0, none⟩), .int .i64 (q : Int), .bool false, .int .i64 stays] 153)
  have HG1 := Mm.hid (H1.out.grow (.cells #[.pointer (some ⟨wb, 0, none⟩), .int .i64 (q : Int), .bool false, .int .i64 stays] 153))
  have BL := Mm.hid ((Below.refl w.heap.size w).alloc (Nat.le_refl _) (.cells #[.pointer (some ⟨wb, 0, none⟩), .int .i64 (q : Int), .bool false, .int .i64 stays] 153))
  obtain ⟨y, hy⟩ : ∃ y, wrap64 (bg + (q : Int)) = y := ⟨_, rfl⟩
  obtain ⟨x, hx⟩ : ∃ x, wrap64 (bg + (left : Int)) = x := ⟨_, rfl⟩
  obtain ⟨r, hr⟩ : ∃ r, (x == y) = r := ⟨_, rfl⟩
  have HQ : Hid (r = ((q : Int) == (left : Int))) := by
    show r = _
    rw [← hr, ← hx, ← hy]
    exact wrap_inj (by omega) (by omega)
  have hw2 : S.ws[2]? = some x := by rw [← hx]; exact H2.out.w2
  have W2 := Mm.hid hw2
  have A1 : Hid (readyW x ⟨y, true, false⟩ = r) := by show _ = _; rw [← hr]; rfl
  have A2 : Hid (stepW 1 2 ⟨y, true, false⟩ S = (r, ⟨y, true, r⟩, S.load 2)) := by show _ = _; rw [← hr]; exact step_wait hw2 (hx ▸ hp.out)
  obtain ⟨in1, in2⟩ := H2.out.look (r := r) (q := q) (st := st) HT.out hq1 hq2 rfl HQ.out hs0 hs6
  rw [hy] at in1
  have IN := Mm.hid in1
  have IM := Mm.hid in2
  have hm := H2.out.m_le
  have hlc := H2.out.lec
  have hT8 : Hid ((S.tr.length + 1) * 40 ≤ 140737488355328) := by show _ ≤ _; have := H2.out.tr; omega
  have hB8 : Hid (S.bad ≤ 4611686018427387904) := by show _ ≤ _; have := H2.out.bad; omega
  rw [hy] at HT
  clear hw2 hy hx hr in1 in2
  go_enter Try.func49, Try.ntmps49
  go_upto_region 2 with (fail)
  generalize w.alloc (.cells #[.pointer (some ⟨wb, 0, none⟩), .int .i64 (q : Int), .bool false, .int .i64 stays] 153) = w1 at *
  have KG : Hid (∀ k, G k → w1.heap[k]? = w.heap[k]?) := fun k hk => BL.out.block k (H1.out.lt hk)
  have H3 := Mm.hid (H0.out.keep KG.out)
  have hxG : Hid (∀ k, G k → k ≠ w.heap.size) := fun k hk e => by have := H1.out.lt hk; omega
  have hbase := H1.out.le
  clear r2 c0 c1 c2 c3 KG H0 H1 BL
  have x0 : w1.cell? ⟨w.heap.size, 0, none⟩ = some (.pointer (some ⟨wb, 0, none⟩)) := BX.out.cell 0
  have x1 : w1.cell? ⟨w.heap.size, 1, none⟩ = some (.int .i64 (q : Int)) := BX.out.cell 1
  have x2 : w1.cell? ⟨w.heap.size, 2, none⟩ = some (.bool false) := BX.out.cell 2
  have x3 : w1.cell? ⟨w.heap.size, 3, none⟩ = some (.int .i64 stays) := BX.out.cell 3
  obtain ⟨gw, bw⟩ := H3.out.wait t _ HT.out wb rfl
  obtain ⟨bl, gl⟩ := H3.out.lk t
  have hge := H3.out.geb _ gw
  have hne : lkB l0 l1 t ≠ wb := blk_ne bl bw (by decide)
  have GW := Mm.hid (And.intro gw gl)
  have BW := Mm.hid bw
  have BLK := Mm.hid bl
  clear gw bw bl gl
  simp only at BW
  go_wp2_with fail
  refine (ready_any HG1.out 1 2 x W2.out wb (lkB l0 l1 t) ⟨y, true, false⟩ (.inl GW.out.1) BW.out BLK.out).mono ?_
  rw [A1.out]
  rintro e w2 ⟨rfl, h4, k4⟩
  have H4 := Mm.hid (H3.out.keep fun k hk => k4 k (.inl hk))
  have X4 := Mm.hid (BX.out.keep (k4 _ (.inr rfl)))
  have BW4 := Mm.hid (BW.out.keep (k4 _ (.inl GW.out.1)))
  have BL4 := Mm.hid (BLK.out.keep (k4 _ (.inl GW.out.2)))
  have HG4 := Mm.hid h4
  clear h4 k4 H3 BX HG1 BW BLK x0 x1 x2 x3
  have x0 : w2.cell? ⟨w.heap.size, 0, none⟩ = some (.pointer (some ⟨wb, 0, none⟩)) := X4.out.cell 0
  go_wp2_with fail
  refine (step_any HG4.out 1 2 wb (lkB l0 l1 t) ⟨y, true, false⟩ (.inl GW.out.1) hge (.inl GW.out.2) hne BW4.out BL4.out hB8.out hT8.out).mono ?_
  rw [A2.out]
  rintro e w3 ⟨rfl, h5, b5, k5⟩
  have hnx : w.heap.size ≠ wb := Ne.symm (hxG.out _ GW.out.1)
  have H5 := Mm.hid (H4.out.step (W' := ⟨y, true, r⟩) HT.out rfl (fun k hk hne => k5 k (.inl hk) hne) b5)
  have HT5 : Hid ((Ts.set t ⟨some wb, ⟨y, true, r⟩, (q : Int), false, stays⟩)[t]? = some ⟨some wb, ⟨y, true, r⟩, (q : Int), false, stays⟩) := List.getElem?_set_self (List.getElem?_eq_some_iff.1 HT.out).1
  have X5 := Mm.hid (X4.out.keep (k5 _ (.inr rfl) hnx))
  have HG5 := Mm.hid h5
  clear h5 b5 k5 H4 X4 BW4 BL4 HG4 x0
  simp only at H5
  have IN' : Hid (Inv bg (k + 1) n (S.load 2) ((Ts.set t ⟨some wb, ⟨y, true, r⟩, (q : Int), false, stays⟩).set t ⟨some wb, ⟨y, true, r⟩, (q : Int), r, st⟩) came left (if r then m + 1 else m)) := by
    show Inv _ _ _ _ _ _ _ _
    rw [List.set_set]; exact IN.out
  clear IN A1 A2
  have r4 : w3.cell? ⟨rb, 4, none⟩ = some (.int .i64 (left : Int)) := H5.out.room.cell 4
  have x0 : w3.cell? ⟨w.heap.size, 0, none⟩ = some (.pointer (some ⟨wb, 0, none⟩)) := X5.out.cell 0
  have x1 : w3.cell? ⟨w.heap.size, 1, none⟩ = some (.int .i64 (q : Int)) := X5.out.cell 1
  have x2 : w3.cell? ⟨w.heap.size, 2, none⟩ = some (.bool false) := X5.out.cell 2
  have x3 : w3.cell? ⟨w.heap.size, 3, none⟩ = some (.int .i64 stays) := X5.out.cell 3
  have x2f : w3.frozen? ⟨w.heap.size, 2, none⟩ = false := X5.out.free 2
  have x3f : w3.frozen? ⟨w.heap.size, 3, none⟩ = false := X5.out.free 3
  generalize w.heap.size = xb at *
  cases r
  · have hqb : ((q : Int) == (left : Int)) = false := HQ.out.symm
    have IN : Hid (Inv bg (k + 1) n (S.load 2) ((Ts.set t ⟨some wb, ⟨y, true, false⟩, (q : Int), false, stays⟩).set t ⟨some wb, ⟨y, true, false⟩, (q : Int), false, st⟩) came left m) := IN'.out
    clear HQ IM IN'
    go_upto_region 9 with (fail)
    go_quiet (fail)
    have H6 : Hid (RM base g G rb lL l0 l1 tb n cap (Ts.set t ⟨some wb, ⟨y, true, false⟩, (q : Int), false, stays⟩) (came : Int) (left : Int) v (ordL m) (w3.drewN nq)) := H5.out.keep fun _ _ => rfl
    have X6 : Hid (Blk (w3.drewN nq) xb 153 #[.pointer (some ⟨wb, 0, none⟩), .int .i64 (q : Int), .bool false, .int .i64 stays]) := X5.out.keep rfl
    have HG6 : Hid (HasG base g w0 (fun k => G k ∨ k = xb) (S.load 2) (w3.drewN nq)) := HG5.out.write (Fr.drewN (fun _ => False) w3 nq) (fun _ h => h.elim)
    clear r4 x0 x1 x2 x3 x2f x3f H5 X5 HG5
    generalize w3.drewN nq = w4 at *
    have x2 : w4.cell? ⟨xb, 2, none⟩ = some (.bool false) := X6.out.cell 2
    have x3 : w4.cell? ⟨xb, 3, none⟩ = some (.int .i64 stays) := X6.out.cell 3
    have x2f : w4.frozen? ⟨xb, 2, none⟩ = false := X6.out.free 2
    have x3f : w4.frozen? ⟨xb, 3, none⟩ = false := X6.out.free 3
    obtain ⟨b7, f7⟩ := box2 X6.out (.bool false) (.int .i64 st)
    have X7 := Mm.hid b7
    have H7 := Mm.hid (H6.out.off f7 hxG.out fun k hk => HG6.out.lt (.inl hk))
    have HG7 := Mm.hid ((HG6.out.write f7 fun k e => ⟨.inr e, by have e : k = xb := e; rw [e]; exact hbase⟩).sub fun k (hk : G k) => .inl hk)
    clear b7 f7
    go_wp2_with fail
    clear x2 x3 x2f x3f H6 X6 HG6
    generalize (w4.setCell ⟨xb, 2, none⟩ (.bool false)).setCell ⟨xb, 3, none⟩ (.int .i64 st) = w5 at *
    have x0 : w5.cell? ⟨xb, 0, none⟩ = some (.pointer (some ⟨wb, 0, none⟩)) := X7.out.cell 0
    have x1 : w5.cell? ⟨xb, 1, none⟩ = some (.int .i64 (q : Int)) := X7.out.cell 1
    have x2 : w5.cell? ⟨xb, 2, none⟩ = some (.bool false) := X7.out.cell 2
    have x3 : w5.cell? ⟨xb, 3, none⟩ = some (.int .i64 st) := X7.out.cell 3
    have y2 : w5.cell? ⟨rb, 2, none⟩ = some (.slice (some ⟨tb, 0, none⟩) n cap) := H7.out.room.cell 2
    obtain ⟨y4, y5, y6, y7, z0, z1, z2, z3⟩ := H7.out.at HT5.out ht
    simp only [Option.map] at y4
    go_region_law (fail)
    all_goals go_wp2
    all_goals go_ret
    all_goals exact ⟨rfl, RS.drew (move_fin ⟨some wb, ⟨y, true, false⟩, (q : Int), false, st⟩ H7.out HG7.out HT5.out IN.out (fun b hb => H7.out.wait t _ HT5.out b hb) (fun j T2 hj h2 b hb => H7.out.apart t j _ T2 (Ne.symm hj) HT5.out h2 b hb))⟩
  · have hqb : ((q : Int) == (left : Int)) = true := HQ.out.symm
    have hql : m = left := IM.out rfl
    have hql2 : q = left := by have := beq_iff_eq.1 hqb; omega
    have IN : Hid (Inv bg (k + 1) n (S.load 2) ((Ts.set t ⟨some wb, ⟨y, true, true⟩, (q : Int), false, stays⟩).set t ⟨some wb, ⟨y, true, true⟩, (q : Int), true, st⟩) came left (m + 1)) := IN'.out
    have HQM : Hid (q = m) := hql2.trans hql.symm
    clear HQ IM IN' hql hql2
    go_upto_region 9 with (fail)
    go_quiet (fail)
    have H6 : Hid (RM base g G rb lL l0 l1 tb n cap (Ts.set t ⟨some wb, ⟨y, true, true⟩, (q : Int), false, stays⟩) (came : Int) (left : Int) v (ordL m) (w3.drewN nq)) := H5.out.keep fun _ _ => rfl
    have X6 : Hid (Blk (w3.drewN nq) xb 153 #[.pointer (some ⟨wb, 0, none⟩), .int .i64 (q : Int), .bool false, .int .i64 stays]) := X5.out.keep rfl
    have HG6 : Hid (HasG base g w0 (fun k => G k ∨ k = xb) (S.load 2) (w3.drewN nq)) := HG5.out.write (Fr.drewN (fun _ => False) w3 nq) (fun _ h => h.elim)
    clear r4 x0 x1 x2 x3 x2f x3f H5 X5 HG5
    generalize w3.drewN nq = w4 at *
    have x2 : w4.cell? ⟨xb, 2, none⟩ = some (.bool false) := X6.out.cell 2
    have x3 : w4.cell? ⟨xb, 3, none⟩ = some (.int .i64 stays) := X6.out.cell 3
    have x2f : w4.frozen? ⟨xb, 2, none⟩ = false := X6.out.free 2
    have x3f : w4.frozen? ⟨xb, 3, none⟩ = false := X6.out.free 3
    obtain ⟨b7, f7⟩ := box2 X6.out (.bool true) (.int .i64 st)
    have X7 := Mm.hid b7
    have H7 := Mm.hid (H6.out.off f7 hxG.out fun k hk => HG6.out.lt (.inl hk))
    have HG7 := Mm.hid (HG6.out.write f7 fun k e => ⟨.inr e, by have e : k = xb := e; rw [e]; exact hbase⟩)
    clear b7 f7
    go_upto_region 14 with (fail)
    clear x2 x3 x2f x3f H6 X6 HG6
    generalize (w4.setCell ⟨xb, 2, none⟩ (.bool true)).setCell ⟨xb, 3, none⟩ (.int .i64 st) = w5 at *
    have OV := Mm.hid H7.out.order
    rw [ordL_len] at OV
    obtain ⟨A, c, rfl, _, _, _⟩ := own_slice OV.out
    have x1 : w5.cell? ⟨xb, 1, none⟩ = some (.int .i64 (q : Int)) := X7.out.cell 1
    have r5 : w5.cell? ⟨rb, 5, none⟩ = some (.slice A m c) := H7.out.room.cell 5
    have r5f : w5.frozen? ⟨rb, 5, none⟩ = false := H7.out.room.free 5
    have FA : Hid (Fr (fun _ => False) w5 (w5.alloc (.cells #[.int .i64 (q : Int)] 3)).drew) := (Fr.alloc (fun _ => False) w5 _).trans (Fr.drew (fun _ => False) _) fun _ _ h => h
    have BG := Mm.hid (Blk.new w5 #[.int .i64 (q : Int)] 3)
    have R5 := Mm.hid (FA.out.blk H7.out.room (fun h => h))
    have r6 : (w5.alloc (.cells #[.int .i64 (q : Int)] 3)).cell? ⟨rb, 5, none⟩ = some (.slice A m c) := R5.out.cell 5
    have hb5 := HG7.out.le
    have hlrb := R5.out.lt
    have OT2 := Mm.hid (FA.out.own OV.out (fun _ _ h => h))
    have HSB : Hid (base ≤ (w5.alloc (.cells #[.int .i64 (q : Int)] 3)).drew.heap.size) := Nat.le_trans hb5 FA.out.size
    have NV := Mm.hid (H7.out.v_ne H7.out.room (by decide))
    have HN : Hid ((m + 1) * 8 ≤ 140737488355328) := by show _ ≤ _; omega
    have LRB := Mm.hid hlrb
    clear hlrb
    go_region_law ((refine step_ape1 base rfl (.tmp 66) (.tmp 69) 30 3 (.int .i64 0) 1 8 #[.int .i64 (q : Int)] w5.heap.size rfl Try.underlying30 info3 rfl (by decide) (by decide) (.slice A m c) m _ rfl rfl (BG.out.keep rfl) rfl (by intro u hu; simp at hu; subst hu; rfl) OT2.out HSB.out HN.out ?_; intro v1 w6 k1 k3 k4; have hb1 := R5.out.keep (k3.block rb LRB.out (fun e => NV.out e.symm)); have d1 : w6.cell? ⟨rb, 5, none⟩ = some (.slice A m c) := hb1.cell 5; have d2 : w6.frozen? ⟨rb, 5, none⟩ = false := hb1.free 5; have K1 := Mm.hid k1; have K3 := Mm.hid k3; have K4 := Mm.hid k4; have HB1 := Mm.hid hb1; clear k1 k3 k4 hb1; obtain ⟨A1, c1', hv, _⟩ := own_slice K1.out; subst hv))
    all_goals (
      clear x1 r5 r5f r6 d1 d2
      obtain ⟨p1, p2⟩ := H7.out.push hb5 FA.out (by have h := K1.out; rw [HQM.out] at h; exact h) K3.out K4.out
      have hsz : (w6.setCell ⟨rb, 5, none⟩ (.slice A1 (m + 1) c1')).heap.size = w6.heap.size := by simp [World.setCell]
      have X8 := Mm.hid (p2.blk X7.out (fun e => e.elim (fun e => H7.out.v_ne X7.out (by decide) e) fun e => blk_ne X7.out H7.out.room (by decide) e))
      have H8 := Mm.hid p1
      have HG8 := Mm.hid ((HG7.out.more p2 (fun k hk => hk.elim (fun e => ⟨.inl (H7.out.gv k e), H7.out.geb k (H7.out.gv k e)⟩) fun e => ⟨.inl (e ▸ H7.out.grb), e ▸ H7.out.geb _ H7.out.grb⟩)).sub (G := fun k => G k ∨ (w5.heap.size ≤ k ∧ k < w6.heap.size)) fun k hk => by rw [hsz]; exact hk.imp (fun h => .inl h) fun h => h)
      clear p1 p2 hsz K1 K3 K4 HB1 FA BG R5 OT2 HSB NV HN LRB OV H7 X7 HG7
      generalize w6.setCell ⟨rb, 5, none⟩ (.slice A1 (m + 1) c1') = w7 at *
      go_wp2_with fail
      have x0 : w7.cell? ⟨xb, 0, none⟩ = some (.pointer (some ⟨wb, 0, none⟩)) := X8.out.cell 0
      have x1 : w7.cell? ⟨xb, 1, none⟩ = some (.int .i64 (q : Int)) := X8.out.cell 1
      have x2 : w7.cell? ⟨xb, 2, none⟩ = some (.bool true) := X8.out.cell 2
      have x3 : w7.cell? ⟨xb, 3, none⟩ = some (.int .i64 st) := X8.out.cell 3
      have y2 : w7.cell? ⟨rb, 2, none⟩ = some (.slice (some ⟨tb, 0, none⟩) n cap) := H8.out.room.cell 2
      obtain ⟨y4, y5, y6, y7, z0, z1, z2, z3⟩ := H8.out.at HT5.out ht
      simp only [Option.map] at y4
      go_region_law (fail)
      all_goals go_wp2
      all_goals go_ret
      all_goals exact ⟨rfl, RS.drew (move_fin ⟨some wb, ⟨y, true, true⟩, (q : Int), true, st⟩ H8.out HG8.out HT5.out IN.out (fun b hb => H8.out.wait t _ HT5.out b hb) (fun j T2 hj h2 b hb => H8.out.apart t j _ T2 (Ne.symm hj) HT5.out h2 b hb))⟩)
end
end Go.Proofs.Ytkbobgblohohcaa

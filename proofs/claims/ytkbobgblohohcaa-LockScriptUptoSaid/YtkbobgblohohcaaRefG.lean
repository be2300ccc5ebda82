/- Walk: one call on a memory and on the document's. -/
import Derived.Test.YtkbobgblohohcaaRefF
namespace Go.Proofs.Ytkbobgblohohcaa
open Go.RowKit Go.Mm Go.Cells
def stepC (S : Cm) (s : Stp) : Cm := if s.d = 1 ∨ s.d = 2 ∨ s.d = 3 ∨ s.d = 4 then accC S s else if s.d = 5 then S.note s.x else if s.d = 6 then S.fill s.a s.b poison else if s.d = 7 then S.fill s.a s.b 0 else S
theorem stepC_le (S : Cm) (s : Stp) : (stepC S s).tr.length ≤ S.tr.length + 1 ∧ (stepC S s).bad ≤ S.bad + 1 ∧ (stepC S s).ws.length = S.ws.length := by
  obtain ⟨h1, h2, _, h4⟩ := op_le S s.a s.b s.c
  obtain ⟨_, _, h3, _⟩ := op_le S s.a s.b s.c
  have f1 := fill_tr S s.a s.b poison
  have f2 := fill_tr S s.a s.b 0
  have g1 := congrArg List.length f1.1
  have g2 := congrArg List.length f2.1
  obtain ⟨_, f1b, f1c⟩ := f1
  obtain ⟨_, f2b, f2c⟩ := f2
  have h5 : (S.note s.x).tr.length = S.tr.length + 1 ∧ (S.note s.x).bad = S.bad ∧ (S.note s.x).ws.length = S.ws.length := ⟨by simp [Cm.note], rfl, rfl⟩
  unfold stepC accC
  repeat' split
  all_goals omega
section
variable {base g r lb : Nat} {F : Nat → Prop} {w : World} {S : Cm}
theorem PB.same (h : PB base F w g r lb S) {w' : World} (hb : Below w.heap.size w w') : PT base F w g r (lb + 1) S w' := PT.same (h.mono (Nat.le_succ lb)) hb
theorem words_le (S : Cm) (a n : Int) : (S.words a n).length ≤ S.ws.length := by
  unfold Cm.words
  split
  · simp; omega
  · simp
theorem box_at {W : World} {xb : Nat} {sd sa sb sc xk xa xv xo : Int} {xg : Bool} (h : Blk W xb 49 #[.int .i64 sd, .int .i64 sa, .int .i64 sb, .int .i64 sc, .int .i8 xk, .int .i64 xa, .int .i64 xv, .int .i64 xo, .bool xg]) :
    W.cell? ⟨xb, 0, none⟩ = some (.int .i64 sd) ∧ W.cell? ⟨xb, 1, none⟩ = some (.int .i64 sa) ∧ W.cell? ⟨xb, 2, none⟩ = some (.int .i64 sb) ∧ W.cell? ⟨xb, 3, none⟩ = some (.int .i64 sc) ∧ W.cell? ⟨xb, 4, none⟩ = some (.int .i8 xk) ∧ W.cell? ⟨xb, 5, none⟩ = some (.int .i64 xa) ∧ W.cell? ⟨xb, 6, none⟩ = some (.int .i64 xv) ∧ W.cell? ⟨xb, 7, none⟩ = some (.int .i64 xo) ∧ W.cell? ⟨xb, 8, none⟩ = some (.bool xg) :=
  ⟨h.cell 0, h.cell 1, h.cell 2, h.cell 3, h.cell 4, h.cell 5, h.cell 6, h.cell 7, h.cell 8⟩
set_option maxRecDepth 100000 in
set_option maxHeartbeats 8000000 in
theorem step14_any (s : Stp) (h : PB base F w g r lb S) (gs : gX s) (hb : S.bad ≤ 4611686018427387904) (hn : (S.tr.length + 20) * 40 ≤ 140737488355328) (hlb : (lb + 1) * 24 ≤ 140737488355328) :
    Calls Try.prog 34 #[.pointer (some ⟨g, 0, none⟩), .pointer (some ⟨r, 0, none⟩), .agg (fX s).toArray] w (PE base F g r (lb + 1) (stepC S s) (.bool true) w) := by
  have gb : s.b ≤ 9223372036854775807 := by
    have : (Lit.int .i64 s.b).wf = true := gs.2.2.1
    have : -9223372036854775808 ≤ s.b ∧ s.b ≤ 9223372036854775807 := by simpa [Lit.wf, IntKind.min, IntKind.max, IntKind.signed, IntKind.bits] using this
    exact this.2
  obtain ⟨sd, sa, sb, sc, ⟨xk, xa, xv, xo, xg⟩⟩ := s
  show Calls Try.prog 34 #[.pointer (some ⟨g, 0, none⟩), .pointer (some ⟨r, 0, none⟩), .agg #[.int .i64 sd, .int .i64 sa, .int .i64 sb, .int .i64 sc, .int .i8 xk, .int .i64 xa, .int .i64 xv, .int .i64 xo, .bool xg]] w _
  simp only at gb
  obtain ⟨U, hU⟩ : ∃ U, stepC S ⟨sd, sa, sb, sc, ⟨xk, xa, xv, xo, xg⟩⟩ = U := ⟨_, rfl⟩
  rw [hU]
  have HU := Mm.hid hU
  have HB := Mm.hid hb
  have HN : Hid ((S.tr.length + 1) * 40 ≤ 140737488355328) := Nat.le_trans (Nat.mul_le_mul_right 40 (by omega)) hn
  have HN20 := Mm.hid hn
  have LB := Mm.hid hlb
  have GB := Mm.hid gb
  have BX := Mm.hid (Blk.new w #[.int .i64 sd, .int .i64 sa, .int .i64 sb, .int .i64 sc, .int .i8 xk, .int .i64 xa, .int .i64 xv, .int .i64 xo, .bool xg] 49)
  have BL := Mm.hid ((Below.refl w.heap.size w).alloc (Nat.le_refl _) (.cells #[.int .i64 sd, .int .i64 sa, .int .i64 sb, .int .i64 sc, .int .i8 xk, .int .i64 xa, .int .i64 xv, .int .i64 xo, .bool xg] 49))
  have H0 := Mm.hid h
  have H1 := Mm.hid (h.below BL.out)
  have FA : Hid (Fr F w (w.alloc (.cells #[.int .i64 sd, .int .i64 sa, .int .i64 sb, .int .i64 sc, .int .i8 xk, .int .i64 xa, .int .i64 xv, .int .i64 xo, .bool xg] 49))) := Fr.alloc F w _
  have NX : Hid (¬ F w.heap.size) := fun e => by have := (h.fl _ e).2; omega
  clear hU hb hn hlb h gs gb
  by_cases e0 : sd = 1 ∨ sd = 2 ∨ sd = 3 ∨ sd = 4
  · have E : Hid (accC S ⟨sd, sa, sb, sc, ⟨xk, xa, xv, xo, xg⟩⟩ = U) := by have := HU.out; unfold stepC at this; rwa [if_pos e0] at this
    clear HU
    go_enter Try.func34, Try.ntmps34
    go_upto_region 1 with (fail)
    generalize w.alloc (.cells #[.int .i64 sd, .int .i64 sa, .int .i64 sb, .int .i64 sc, .int .i8 xk, .int .i64 xa, .int .i64 xv, .int .i64 xo, .bool xg] 49) = w1 at *
    obtain ⟨c0, c1, c2, c3, c4, c5, c6, c7, c8⟩ := box_at BX.out
    have A1 := Mm.hid (access_any ⟨sd, sa, sb, sc, ⟨xk, xa, xv, xo, xg⟩⟩ H1.out HB.out HN.out LB.out)
    rw [E.out] at A1
    obtain rfl | rfl | rfl | rfl := e0
    all_goals (
      go_wp2_with fail
      refine (A1.out).mono ?_
      rintro e w3 ⟨rfl, h3⟩
      have FN := Mm.hid (h3.after FA.out)
      clear h3 c0 c1 c2 c3 c4 c5 c6 c7 c8
      go_wp2
      go_ret
      exact ⟨rfl, FN.out⟩)
  have b1 : (sd == 1) = false := beq_eq_false_iff_ne.2 fun e => e0 (.inl e)
  have b2 : (sd == 2) = false := beq_eq_false_iff_ne.2 fun e => e0 (.inr (.inl e))
  have b3 : (sd == 3) = false := beq_eq_false_iff_ne.2 fun e => e0 (.inr (.inr (.inl e)))
  have b4 : (sd == 4) = false := beq_eq_false_iff_ne.2 fun e => e0 (.inr (.inr (.inr e)))
  have E0 : Hid ((if sd = 5 then S.note ⟨xk, xa, xv, xo, xg⟩ else if sd = 6 then S.fill sa sb poison else if sd = 7 then S.fill sa sb 0 else S) = U) := by have := HU.out; unfold stepC at this; rwa [if_neg e0] at this
  clear e0 HU
  by_cases e5 : sd = 5
  · subst e5
    have E : Hid (S.note ⟨xk, xa, xv, xo, xg⟩ = U) := E0.out
    clear E0 b1 b2 b3 b4
    go_enter Try.func34, Try.ntmps34
    go_upto_region 1 with (fail)
    generalize w.alloc (.cells #[.int .i64 5, .int .i64 sa, .int .i64 sb, .int .i64 sc, .int .i8 xk, .int .i64 xa, .int .i64 xv, .int .i64 xo, .bool xg] 49) = w1 at *
    obtain ⟨c0, c1, c2, c3, c4, c5, c6, c7, c8⟩ := box_at BX.out
    go_wp2_with fail
    refine (H1.out.half fun Fm m1 m2 => note_any base g Fm S xk xa xv xo xg _ m1 m2 HN.out).mono ?_
    rintro e w2 ⟨rfl, h2⟩
    have H2 := Mm.hid h2
    obtain ⟨_, _, _, _, _, _, _, hf⟩ := h2.out
    have X2 := Mm.hid (hf.blk BX.out NX.out)
    clear c0 c1 c2 c3 c4 c5 c6 c7 c8 h2 hf BX H1
    obtain ⟨c0, c1, c2, c3, c4, c5, c6, c7, c8⟩ := box_at X2.out
    go_wp2_with fail
    refine (H2.out.full fun Fq m1 m2 => (rnote_any xk xa xv xo xg m1 m2 HN.out).mono fun _ _ h => (⟨h.1, h.2.mono (Nat.le_succ lb)⟩ : ROpE base Fq r (lb + 1) _ _ _ _ _)).mono ?_
    rintro e w3 ⟨rfl, h3⟩
    rw [E.out] at h3
    have FN := Mm.hid (h3.after FA.out)
    clear h3 c0 c1 c2 c3 c4 c5 c6 c7 c8
    go_wp2
    go_ret
    exact ⟨rfl, FN.out⟩
  have b5 : (sd == 5) = false := beq_eq_false_iff_ne.2 e5
  by_cases e6 : sd = 6
  · subst e6
    have E : Hid (S.fill sa sb poison = U) := E0.out
    clear E0 b1 b2 b3 b4
    go_enter Try.func34, Try.ntmps34
    go_upto_region 1 with (fail)
    generalize w.alloc (.cells #[.int .i64 6, .int .i64 sa, .int .i64 sb, .int .i64 sc, .int .i8 xk, .int .i64 xa, .int .i64 xv, .int .i64 xo, .bool xg] 49) = w1 at *
    obtain ⟨c0, c1, c2, c3, c4, c5, c6, c7, c8⟩ := box_at BX.out
    have H1d : Hid (PB base F w1.drew g r lb S) := H1.out.fr (Fr.drew (fun _ => False) w1) fun _ _ h => h
    have X1d : Hid (Blk w1.drew w.heap.size 49 #[.int .i64 6, .int .i64 sa, .int .i64 sb, .int .i64 sc, .int .i8 xk, .int .i64 xa, .int .i64 xv, .int .i64 xo, .bool xg]) := BX.out.keep rfl
    go_wp2_with fail
    go_region_held3 (fun w' => w'.cell? ⟨w.heap.size, 1, none⟩ = some (.int .i64 sa) ∧ w'.cell? ⟨w.heap.size, 2, none⟩ = some (.int .i64 sb)) (go_keep)
      (first | (go_at_call 29; refine (H1d.out.half fun Fm m1 m2 => (poison_any base g Fm S sa sb _ m1 GB.out).mono fun _ _ h => fill_op h).mono ?_; rintro e w2 ⟨rfl, h2⟩; have H2 := Mm.hid h2; obtain ⟨_, _, _, _, _, _, _, hf⟩ := h2.out; have X2 := Mm.hid (hf.blk X1d.out NX.out); have y1 := (box_at X2.out).2.1; have y2 := (box_at X2.out).2.2.1; clear h2 hf) | (go_at_call 80; refine (H2.out.full fun Fq m1 m2 => rpoison_any sa sb m1 GB.out m2 LB.out).mono ?_; rintro e w3 ⟨rfl, h3⟩; rw [E.out] at h3; obtain ⟨_, _, _, hf⟩ := h3.out; have X3 := Mm.hid (hf.blk X1d.out NX.out); have y1 := (box_at X3.out).2.1; have y2 := (box_at X3.out).2.2.1; have FN := Mm.hid (PT.after (FA.out.trans (Fr.drew F w1) fun _ _ h => h) h3); clear h3 hf))
    all_goals go_wp2
    all_goals go_ret
    all_goals exact ⟨by simp, FN.out⟩
  have b6 : (sd == 6) = false := beq_eq_false_iff_ne.2 e6
  by_cases e7 : sd = 7
  · subst e7
    have E : Hid (S.fill sa sb 0 = U) := E0.out
    clear E0 b1 b2 b3 b4
    go_enter Try.func34, Try.ntmps34
    go_upto_region 1 with (fail)
    generalize w.alloc (.cells #[.int .i64 7, .int .i64 sa, .int .i64 sb, .int .i64 sc, .int .i8 xk, .int .i64 xa, .int .i64 xv, .int .i64 xo, .bool xg] 49) = w1 at *
    obtain ⟨c0, c1, c2, c3, c4, c5, c6, c7, c8⟩ := box_at BX.out
    have H1d : Hid (PB base F w1.drew g r lb S) := H1.out.fr (Fr.drew (fun _ => False) w1) fun _ _ h => h
    have X1d : Hid (Blk w1.drew w.heap.size 49 #[.int .i64 7, .int .i64 sa, .int .i64 sb, .int .i64 sc, .int .i8 xk, .int .i64 xa, .int .i64 xv, .int .i64 xo, .bool xg]) := BX.out.keep rfl
    go_wp2_with fail
    go_region_held3 (fun w' => w'.cell? ⟨w.heap.size, 1, none⟩ = some (.int .i64 sa) ∧ w'.cell? ⟨w.heap.size, 2, none⟩ = some (.int .i64 sb)) (go_keep)
      (first | (go_at_call 28; refine (H1d.out.half fun Fm m1 m2 => (clear_any base g Fm S sa sb _ m1 GB.out).mono fun _ _ h => fill_op h).mono ?_; rintro e w2 ⟨rfl, h2⟩; have H2 := Mm.hid h2; obtain ⟨_, _, _, _, _, _, _, hf⟩ := h2.out; have X2 := Mm.hid (hf.blk X1d.out NX.out); have y1 := (box_at X2.out).2.1; have y2 := (box_at X2.out).2.2.1; clear h2 hf) | (go_at_call 81; refine (H2.out.full fun Fq m1 m2 => rclear_any sa sb m1 GB.out m2 LB.out).mono ?_; rintro e w3 ⟨rfl, h3⟩; rw [E.out] at h3; obtain ⟨_, _, _, hf⟩ := h3.out; have X3 := Mm.hid (hf.blk X1d.out NX.out); have y1 := (box_at X3.out).2.1; have y2 := (box_at X3.out).2.2.1; have FN := Mm.hid (PT.after (FA.out.trans (Fr.drew F w1) fun _ _ h => h) h3); clear h3 hf))
    all_goals go_wp2
    all_goals go_ret
    all_goals exact ⟨by simp, FN.out⟩
  have b7 : (sd == 7) = false := beq_eq_false_iff_ne.2 e7
  have E : Hid (S = U) := by have := E0.out; rwa [if_neg e5, if_neg e6, if_neg e7] at this
  clear E0 e5 e6 e7
  by_cases e8 : sd = 8
  · subst e8
    clear b1 b2 b3 b4 b5 b6 b7
    go_enter Try.func34, Try.ntmps34
    go_upto_region 1 with (fail)
    generalize w.alloc (.cells #[.int .i64 8, .int .i64 sa, .int .i64 sb, .int .i64 sc, .int .i8 xk, .int .i64 xa, .int .i64 xv, .int .i64 xo, .bool xg] 49) = w1 at *
    obtain ⟨c0, c1, c2, c3, c4, c5, c6, c7, c8⟩ := box_at BX.out
    have hsz1 := BL.out.size
    go_wp2_with fail
    obtain ⟨Fm, Fq, hm, hr, hd, hF⟩ := H1.out.out
    have HM := Mm.hid hm
    have HR := Mm.hid hr
    clear hm hr hd hF
    refine (words_any base g Fm S sa sb _ HM.out GB.out).mono ?_
    rintro e w2 ⟨A2, m2, k2, rfl, hk2, O2⟩
    have X2 := Mm.hid (BX.out.keep (O2.out.2.2.block _ BX.out.lt))
    have R2 := Mm.hid (HR.out.below O2.out.2.2)
    have hs2 := O2.out.2.2.size
    clear c0 c1 c2 c3 c4 c5 c6 c7 c8
    obtain ⟨c0, c1, c2, c3, c4, c5, c6, c7, c8⟩ := box_at X2.out
    go_wp2_with fail
    refine (rwords_any sa sb R2.out GB.out LB.out).mono ?_
    rintro e w3 ⟨A3, m3, k3, rfl, hk3, O3⟩
    clear c0 c1 c2 c3 c4 c5 c6 c7 c8
    obtain ⟨o1, o2, o3⟩ := O3.out
    obtain ⟨p1, p2, p3⟩ := O2.out
    have hmm : m3 = m2 := by omega
    subst hmm
    have RA := Mm.hid ((Fr.of_below o3).own p2 (fun _ _ h => h))
    have RB := Mm.hid o2
    have B3 := Mm.hid (p3.trans (o3.mono hs2))
    have hm20 : Hid ((m3 + 20) * 8 ≤ 140737488355328) := by
      show _ ≤ _
      have h1 := words_le S sa sb
      have h2 := H1.out
      obtain ⟨_, _, q, _⟩ := h2.out
      have := q.wl
      omega
    have hs3 := o3.size
    clear o1 o2 o3 p1 p2 p3 O2 O3
    go_wp2_with fail
    refine (same_any A2 m3 k2 A3 m3 k3 _ _ _ (Rd.of_own RA.out) (Rd.of_own RB.out) hk2 hk3 (by have := hm20.out; omega)).mono ?_
    rw [show decide (S.words sa sb = S.words sa sb) = true from decide_eq_true rfl]
    rintro e w4 ⟨rfl, d, rfl⟩
    have RA4 : Hid ((w3.drewN d).ownsRow w1.heap.size 3 1 (.slice A2 m3 k2) m3 (iL (S.words sa sb))) := (Fr.drewN (fun _ => False) w3 d).own RA.out (fun _ _ h => h)
    go_wp2_with fail
    refine (ownwords_any w1.heap.size A2 m3 k2 _ _ RA4.out (by show w1.heap.size ≤ w3.heap.size; omega) hm20.out).mono ?_
    rintro e w5 ⟨rfl, hf5⟩
    have B5 : Hid (Below w.heap.size w w5) := by
      have q1 : Below w1.heap.size (w3.drewN d) w5 := hf5.below (fun k hk => (RA4.out.lt k hk).1) (by show w1.heap.size ≤ w3.heap.size; omega)
      have q2 : Below w1.heap.size w1 (w3.drewN d) := ⟨B3.out.os, B3.out.tape, B3.out.output, B3.out.size, B3.out.block⟩
      exact BL.out.trans ((q2.trans q1).mono hsz1)
    have FN := Mm.hid (H0.out.same B5.out)
    rw [E.out] at FN
    clear hf5
    go_wp2
    go_ret
    exact ⟨by simp, FN.out⟩
  have b8 : (sd == 8) = false := beq_eq_false_iff_ne.2 e8
  clear e8
  by_cases e9 : sd = 9
  · subst e9
    clear b1 b2 b3 b4 b5 b6 b7 b8
    go_enter Try.func34, Try.ntmps34
    go_upto_region 1 with (fail)
    generalize w.alloc (.cells #[.int .i64 9, .int .i64 sa, .int .i64 sb, .int .i64 sc, .int .i8 xk, .int .i64 xa, .int .i64 xv, .int .i64 xo, .bool xg] 49) = w1 at *
    obtain ⟨c0, c1, c2, c3, c4, c5, c6, c7, c8⟩ := box_at BX.out
    have FN := Mm.hid (H0.out.same BL.out)
    rw [E.out] at FN
    obtain ⟨Fm, Fq, hm, hr, hd, hF⟩ := H1.out.out
    have HM := Mm.hid hm
    have HR := Mm.hid hr
    clear hm hr hd hF
    go_wp2_with fail
    refine (bad_any base g Fm S _ HM.out).mono ?_
    rintro e w2 ⟨rfl, rfl⟩
    go_wp2_with fail
    refine (rbad_any HR.out rfl).mono ?_
    rintro e w2 ⟨rfl, rfl⟩
    have hbb : ((S.bad : Int) == (S.bad : Int)) = true := by simp
    go_wp2
    go_ret
    exact ⟨by simp, FN.out⟩
  have b9 : (sd == 9) = false := beq_eq_false_iff_ne.2 e9
  clear e9
  by_cases e10 : sd = 10
  · subst e10
    clear b1 b2 b3 b4 b5 b6 b7 b8 b9
    go_enter Try.func34, Try.ntmps34
    go_upto_region 1 with (fail)
    generalize w.alloc (.cells #[.int .i64 10, .int .i64 sa, .int .i64 sb, .int .i64 sc, .int .i8 xk, .int .i64 xa, .int .i64 xv, .int .i64 xo, .bool xg] 49) = w1 at *
    obtain ⟨c0, c1, c2, c3, c4, c5, c6, c7, c8⟩ := box_at BX.out
    have hsz1 := BL.out.size
    obtain ⟨n, hn⟩ : ∃ n, S.tr.length = n := ⟨_, rfl⟩
    have LN := Mm.hid hn
    clear hn
    obtain ⟨Fm, Fq, hm, hr, hd, hF⟩ := H1.out.out
    have HM := Mm.hid hm
    have HR := Mm.hid hr
    clear hm hr hd hF
    go_wp2_with fail
    refine (trace_any base g Fm S _ HM.out (by have := HN20.out; omega)).mono ?_
    rintro e w2 ⟨A2, m2, k2, rfl, hk2, O2⟩
    obtain ⟨p1, p2, p3⟩ := O2.out
    rw [LN.out] at p1
    subst p1
    have R2 := Mm.hid (HR.out.below p3)
    have RA := Mm.hid p2
    have B2 := Mm.hid p3
    have hs2 := p3.size
    clear p2 p3 O2 c0 c1 c2 c3 c4 c5 c6 c7 c8
    have hn20 : Hid ((n + 20) * 40 ≤ 140737488355328) := by have := HN20.out; rw [LN.out] at this; exact this
    go_wp2_with fail
    refine (rtrace_any R2.out LN.out).mono ?_
    rintro e w3 ⟨A3, k3, rfl, hk3, R3, rfl⟩
    go_wp2_with fail
    refine (entries_any A2 A3 n k2 k3 S.tr _ (Rd.of_own RA.out) R3.out LN.out (by have := hn20.out; omega)).mono ?_
    rintro e w4 ⟨rfl, hb4⟩
    have RA4 := Mm.hid ((Fr.of_below hb4).own RA.out (fun _ _ h => h))
    have B4 := Mm.hid (B2.out.trans (hb4.mono hs2))
    have hs4 : w1.heap.size ≤ w4.heap.size := B4.out.size
    clear hb4
    go_wp2_with fail
    refine (owntrace_any w1.heap.size A2 n k2 S.tr _ RA4.out LN.out hs4 hn20.out).mono ?_
    rintro e w5 ⟨rfl, hf5⟩
    have B5 : Hid (Below w.heap.size w w5) := by
      have q1 : Below w1.heap.size w4 w5 := hf5.below (fun k hk => (RA4.out.lt k hk).1) hs4
      exact BL.out.trans ((B4.out.trans q1).mono hsz1)
    have FN := Mm.hid (H0.out.same B5.out)
    rw [E.out] at FN
    clear hf5
    go_wp2
    go_ret
    exact ⟨rfl, FN.out⟩
  have b10 : (sd == 10) = false := beq_eq_false_iff_ne.2 e10
  clear e10
  by_cases e11 : sd = 11
  · subst e11
    clear b1 b2 b3 b4 b5 b6 b7 b8 b9 b10
    go_enter Try.func34, Try.ntmps34
    go_upto_region 1 with (fail)
    generalize w.alloc (.cells #[.int .i64 11, .int .i64 sa, .int .i64 sb, .int .i64 sc, .int .i8 xk, .int .i64 xa, .int .i64 xv, .int .i64 xo, .bool xg] 49) = w1 at *
    obtain ⟨c0, c1, c2, c3, c4, c5, c6, c7, c8⟩ := box_at BX.out
    have FN := Mm.hid (H0.out.same BL.out)
    rw [E.out] at FN
    obtain ⟨n, hn⟩ : ∃ n, S.ws.length = n := ⟨_, rfl⟩
    have LN := Mm.hid hn
    clear hn
    obtain ⟨Fm, Fq, hm, hr, hd, hF⟩ := H1.out.out
    have HM := Mm.hid hm
    have HR := Mm.hid hr
    clear hm hr hd hF
    go_wp2_with fail
    refine (len_any base g Fm S n _ HM.out LN.out).mono ?_
    rintro e w2 ⟨rfl, rfl⟩
    go_wp2_with fail
    refine (rlen_any HR.out LN.out).mono ?_
    rintro e w2 ⟨rfl, rfl⟩
    have hbb : ((n : Int) == (n : Int)) = true := by simp
    go_wp2
    go_ret
    exact ⟨by simp, FN.out⟩
  have b11 : (sd == 11) = false := beq_eq_false_iff_ne.2 e11
  clear e11
  go_enter Try.func34, Try.ntmps34
  go_upto_region 1 with (fail)
  generalize w.alloc (.cells #[.int .i64 sd, .int .i64 sa, .int .i64 sb, .int .i64 sc, .int .i8 xk, .int .i64 xa, .int .i64 xv, .int .i64 xo, .bool xg] 49) = w1 at *
  obtain ⟨c0, c1, c2, c3, c4, c5, c6, c7, c8⟩ := box_at BX.out
  have FN := Mm.hid (H0.out.same BL.out)
  rw [E.out] at FN
  go_wp2
  go_ret
  exact ⟨rfl, FN.out⟩
end
end Go.Proofs.Ytkbobgblohohcaa

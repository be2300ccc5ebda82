/- Walk: a step of a script, its answer aside. -/
import Derived.Test.YtkbobgblohohcaaStep
namespace Go.Proofs.Ytkbobgblohohcaa
open Go.RowKit Go.Mm Go.Cells
/-- a step -/
def runC (S : Cm) (s : Stp) : Cm :=
  if s.d = 1 then S.load s.a else if s.d = 2 then S.store s.a s.b else if s.d = 3 then S.swap s.a s.b s.c else if s.d = 4 then S.add s.a s.b else if s.d = 6 then S.fill s.a s.b poison else if s.d = 7 then S.fill s.a s.b 0 else S
theorem looked_le (S : Cm) (a : Int) : S.looked a ≤ S.bad + 1 := by unfold Cm.looked; split <;> omega
theorem fill_tr (S : Cm) (a n x : Int) : (S.fill a n x).tr = S.tr ∧ (S.fill a n x).bad = S.bad ∧ (S.fill a n x).ws.length = S.ws.length := by
  unfold Cm.fill
  split
  · rename_i h
    have h' := (within_iff S a n).1 h
    exact ⟨rfl, rfl, fillL_len (by omega)⟩
  · exact ⟨rfl, rfl, rfl⟩
theorem op_le (S : Cm) (a b c : Int) : ((S.load a).tr.length = S.tr.length + 1 ∧ (S.load a).bad ≤ S.bad + 1 ∧ (S.load a).ws.length = S.ws.length) ∧ ((S.store a b).tr.length = S.tr.length + 1 ∧ (S.store a b).bad ≤ S.bad + 1 ∧ (S.store a b).ws.length = S.ws.length) ∧
    ((S.swap a b c).tr.length = S.tr.length + 1 ∧ (S.swap a b c).bad ≤ S.bad + 1 ∧ (S.swap a b c).ws.length = S.ws.length) ∧ (S.add a b).tr.length = S.tr.length + 1 ∧ (S.add a b).bad ≤ S.bad + 1 ∧ (S.add a b).ws.length = S.ws.length := by
  have := looked_le S a
  refine ⟨⟨by simp [Cm.load], this, rfl⟩, ⟨by simp [Cm.store], this, ?_⟩, ⟨by simp [Cm.swap], this, ?_⟩, by simp [Cm.add], this, ?_⟩
  · unfold Cm.store; simp only; split <;> simp
  · unfold Cm.swap; simp only; split <;> simp
  · unfold Cm.add; simp only; split <;> simp
theorem run_le (S : Cm) (s : Stp) : (runC S s).tr.length ≤ S.tr.length + 1 ∧ (runC S s).bad ≤ S.bad + 1 ∧ (runC S s).ws.length = S.ws.length := by
  obtain ⟨h1, h2, _, h4⟩ := op_le S s.a s.b s.c
  obtain ⟨_, _, h3, _⟩ := op_le S s.a s.b s.c
  unfold runC
  have f1 := fill_tr S s.a s.b poison
  have f2 := fill_tr S s.a s.b 0
  have g1 := congrArg List.length f1.1
  have g2 := congrArg List.length f2.1
  obtain ⟨_, f1b, f1c⟩ := f1
  obtain ⟨_, f2b, f2c⟩ := f2
  repeat' split
  all_goals omega
section
variable {base g : Nat} {w0 w w' : World} {K : World → Prop} {S : Cm}
theorem Has.on (h : Has base g w0 K S w) (hb : Below w.heap.size w w') : Has base g w0 K S w' := by
  obtain ⟨F, G, h1, h2, h3, h4⟩ := h.out
  exact Has.turn h1 h2 h3 h4 (h1.below hb) (fun _ h => .inl h) ((Fr.of_below hb).mono fun _ h => h.elim)
set_option maxRecDepth 100000 in
set_option maxHeartbeats 1000000 in
theorem run_any (h : Has base g w0 K S w) (s : Stp) (gs : gX s) (hb : S.bad ≤ 4611686018427387904) (hn : (S.tr.length + 1) * 40 ≤ 140737488355328) :
    Calls Try.prog 31 #[.pointer (some ⟨g, 0, none⟩), .agg (fX s).toArray] w (HE base g w0 K (runC S s) (.tuple #[])) := by
  have gb : s.b ≤ 9223372036854775807 := by
    have : (Lit.int .i64 s.b).wf = true := gs.2.2.1
    have : -9223372036854775808 ≤ s.b ∧ s.b ≤ 9223372036854775807 := by simpa [Lit.wf, IntKind.min, IntKind.max, IntKind.signed, IntKind.bits] using this
    exact this.2
  obtain ⟨sd, sa, sb, sc, ⟨xk, xa, xv, xo, xg⟩⟩ := s
  show Calls Try.prog 31 #[.pointer (some ⟨g, 0, none⟩), .agg #[.int .i64 sd, .int .i64 sa, .int .i64 sb, .int .i64 sc, .int .i8 xk, .int .i64 xa, .int .i64 xv, .int .i64 xo, .bool xg]] w _
  obtain ⟨U, hU⟩ : ∃ U, runC S ⟨sd, sa, sb, sc, ⟨xk, xa, xv, xo, xg⟩⟩ = U := ⟨_, rfl⟩
  rw [hU]
  simp only at gb
  have BX := Mm.hid (Blk.new w #[.int .i64 sd, .int .i64 sa, .int .i64 sb, .int .i64 sc, .int .i8 xk, .int .i64 xa, .int .i64 xv, .int .i64 xo, .bool xg] 49)
  have H1 := Mm.hid (h.on ((Below.refl w.heap.size w).alloc (Nat.le_refl _) (.cells #[.int .i64 sd, .int .i64 sa, .int .i64 sb, .int .i64 sc, .int .i8 xk, .int .i64 xa, .int .i64 xv, .int .i64 xo, .bool xg] 49)))
  have c0 := BX.out.cell 0
  have c1 := BX.out.cell 1
  have c2 := BX.out.cell 2
  have c3 := BX.out.cell 3
  simp only [List.getElem?_toArray, List.getElem?_cons_zero, List.getElem?_cons_succ] at c0 c1 c2 c3
  have HU := Mm.hid hU
  clear hU h BX
  by_cases e1 : sd = 1
  · subst e1
    have E : Hid (S.load sa = U) := HU.out
    go_enter Try.func31, Try.ntmps31
    go_wp2_with fail
    refine (H1.out.load sa hb hn).mono ?_
    rintro e w2 ⟨rfl, h2⟩
    rw [E.out] at h2
    have H2 := Mm.hid h2
    clear h2
    go_wp2
    go_end0
    exact ⟨rfl, H2.out⟩
  by_cases e2 : sd = 2
  · subst e2
    have E : Hid (S.store sa sb = U) := HU.out
    go_enter Try.func31, Try.ntmps31
    go_wp2_with fail
    refine (H1.out.store sa sb hb hn).mono ?_
    rintro e w2 ⟨rfl, h2⟩
    rw [E.out] at h2
    have H2 := Mm.hid h2
    clear h2
    go_wp2
    go_end0
    exact ⟨rfl, H2.out⟩
  by_cases e3 : sd = 3
  · subst e3
    have E : Hid (S.swap sa sb sc = U) := HU.out
    go_enter Try.func31, Try.ntmps31
    go_wp2_with fail
    refine (H1.out.swap sa sb sc hb hn).mono ?_
    rintro e w2 ⟨rfl, h2⟩
    rw [E.out] at h2
    have H2 := Mm.hid h2
    clear h2
    go_wp2
    go_end0
    exact ⟨rfl, H2.out⟩
  by_cases e4 : sd = 4
  · subst e4
    have E : Hid (S.add sa sb = U) := HU.out
    go_enter Try.func31, Try.ntmps31
    go_wp2_with fail
    refine (H1.out.add sa sb hb hn).mono ?_
    rintro e w2 ⟨rfl, h2⟩
    rw [E.out] at h2
    have H2 := Mm.hid h2
    clear h2
    go_wp2
    go_end0
    exact ⟨rfl, H2.out⟩
  by_cases e6 : sd = 6
  · subst e6
    have E : Hid (S.fill sa sb poison = U) := HU.out
    go_enter Try.func31, Try.ntmps31
    go_wp2_with fail
    refine (H1.out.poison sa sb gb).mono ?_
    rintro e w2 ⟨rfl, h2⟩
    rw [E.out] at h2
    have H2 := Mm.hid h2
    clear h2
    go_wp2
    go_end0
    exact ⟨rfl, H2.out⟩
  by_cases e7 : sd = 7
  · subst e7
    have E : Hid (S.fill sa sb 0 = U) := HU.out
    go_enter Try.func31, Try.ntmps31
    go_wp2_with fail
    refine (H1.out.clear sa sb gb).mono ?_
    rintro e w2 ⟨rfl, h2⟩
    rw [E.out] at h2
    have H2 := Mm.hid h2
    clear h2
    go_wp2
    go_end0
    exact ⟨rfl, H2.out⟩
  have E : Hid (S = U) := by
    have := HU.out
    unfold runC at this
    simp only [e1, e2, e3, e4, e6, e7, if_false] at this
    exact this
  have b1 : (sd == 1) = false := beq_eq_false_iff_ne.2 e1
  have b2 : (sd == 2) = false := beq_eq_false_iff_ne.2 e2
  have b3 : (sd == 3) = false := beq_eq_false_iff_ne.2 e3
  have b4 : (sd == 4) = false := beq_eq_false_iff_ne.2 e4
  have b6 : (sd == 6) = false := beq_eq_false_iff_ne.2 e6
  have b7 : (sd == 7) = false := beq_eq_false_iff_ne.2 e7
  clear e1 e2 e3 e4 e6 e7
  go_enter Try.func31, Try.ntmps31
  go_wp2
  go_end0
  exact ⟨rfl, E.out ▸ H1.out⟩
end
end Go.Proofs.Ytkbobgblohohcaa

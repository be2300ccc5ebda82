/- Walks: a memory and the document's beside it: the four accesses on both. -/
import Derived.Test.YtkbobgblohohcaaRefE
import Derived.Test.YtkbobgblohohcaaRun
import Derived.Test.YtkbobgblohohcaaSame
namespace Go.Proofs.Ytkbobgblohohcaa
open Go.RowKit Go.Mm Go.Cells
/-- a memory and the document's, in blocks F, apart -/
structure PB (base : Nat) (F : Nat → Prop) (w : World) (g r lb : Nat) (S : Cm) : Prop where mk ::
  out : ∃ Fm Fq : Nat → Prop, MemB base Fm w g S ∧ RMem base Fq w r lb S ∧ (∀ k, Fm k → ¬ Fq k) ∧ (∀ k, Fm k ∨ Fq k → F k)
  fl : ∀ k, F k → base ≤ k ∧ k < w.heap.size
/-- the memory has turned, the document's has not -/
structure Half (base : Nat) (F : Nat → Prop) (w : World) (g r lb : Nat) (S S' : Cm) (w1 : World) : Prop where mk ::
  out : ∃ Fm Fq : Nat → Prop, MemB base Fm w1 g S' ∧ RMem base Fq w1 r lb S ∧ (∀ k, Fm k → ¬ Fq k) ∧ (∀ k, Fm k ∨ Fq k → F k ∨ w.heap.size ≤ k) ∧ (∀ k, Fq k → F k) ∧ Fr F w w1
structure PT (base : Nat) (F : Nat → Prop) (w : World) (g r lb : Nat) (S' : Cm) (w' : World) : Prop where mk ::
  out : ∃ F' : Nat → Prop, PB base F' w' g r lb S' ∧ (∀ k, F' k → F k ∨ w.heap.size ≤ k) ∧ Fr F w w'
def PE (base : Nat) (F : Nat → Prop) (g r lb : Nat) (S' : Cm) (v : Value) (w : World) (e : Ending) (w' : World) : Prop := e = .returned v ∧ PT base F w g r lb S' w'
def HalfE (base : Nat) (F : Nat → Prop) (g r lb : Nat) (S S' : Cm) (v : Value) (w : World) (e : Ending) (w' : World) : Prop := e = .returned v ∧ Half base F w g r lb S S' w'
section
variable {base g r lb lb' : Nat} {F T : Nat → Prop} {w w1 w2 w3 : World} {S S' : Cm} {f : FuncId} {args : Array Value} {v : Value}
theorem PB.le (h : PB base F w g r lb S) : base ≤ w.heap.size := by
  obtain ⟨Fm, Fq, hm, _⟩ := h.out
  have := hm.lt g hm.fg; omega
theorem PB.fr (h : PB base F w g r lb S) (hf : Fr T w w1) (hT : ∀ k, F k → ¬ T k) : PB base F w1 g r lb S := by
  obtain ⟨Fm, Fq, hm, hr, hd, hF⟩ := h.out
  exact ⟨⟨Fm, Fq, hm.fr hf fun k hk => hT k (hF k (.inl hk)), hr.fr hf fun k hk => hT k (hF k (.inr hk)), hd, hF⟩, fun k hk => ⟨(h.fl k hk).1, Nat.lt_of_lt_of_le (h.fl k hk).2 hf.size⟩⟩
theorem PB.below (h : PB base F w g r lb S) (hb : Below w.heap.size w w1) : PB base F w1 g r lb S := h.fr (Fr.of_below hb) fun _ _ h => h
theorem PT.after (hf : Fr F w w1) (h : PT base F w1 g r lb S' w2) : PT base F w g r lb S' w2 := by
  obtain ⟨F', m, hs, hf2⟩ := h.out
  exact ⟨F', m, fun k hk => (hs k hk).imp id fun h => Nat.le_trans hf.size h, hf.trans hf2 fun _ _ h => h⟩
theorem PT.then (h : PT base F w g r lb S' w1) (hb : Below w1.heap.size w1 w2) : PT base F w g r lb S' w2 := by
  obtain ⟨F', m, hs, hf⟩ := h.out
  exact ⟨F', m.below hb, hs, hf.trans (Fr.of_below hb) fun _ _ h => h.elim⟩
/-- what lay apart is written -/
theorem PT.off (h : PT base F w g r lb S' w1) (hf : Fr T w1 w2) (hT : ∀ k, T k → w.heap.size ≤ k ∧ ∀ F', (∀ k, F' k → F k ∨ w.heap.size ≤ k) → PB base F' w1 g r lb S' → ¬ F' k) : PT base F w g r lb S' w2 := by
  obtain ⟨F', m, hs, hf1⟩ := h.out
  exact ⟨F', m.fr hf fun k hk ht => (hT k ht).2 F' hs m hk, hs, hf1.trans hf fun g hg ht => by have := (hT g ht).1; omega⟩
theorem PT.same (h : PB base F w g r lb S) (hb : Below w.heap.size w w1) : PT base F w g r lb S w1 := ⟨F, h.below hb, fun _ h => .inl h, (Fr.of_below hb).mono fun _ h => h.elim⟩
theorem PB.mono (h : PB base F w g r lb S) (hl : lb ≤ lb') : PB base F w g r lb' S := by
  obtain ⟨Fm, Fq, hm, hr, hd, hF⟩ := h.out
  exact ⟨⟨Fm, Fq, hm, hr.mono hl, hd, hF⟩, h.fl⟩
theorem PB.half (h : PB base F w g r lb S) (hc : ∀ Fm, MemB base Fm w g S → base ≤ w.heap.size → Calls Try.prog f args w (OpEnds base Fm g S' v w)) : Calls Try.prog f args w (HalfE base F g r lb S S' v w) := by
  have hle := h.le
  obtain ⟨Fm, Fq, hm, hr, hd, hF⟩ := h.out
  refine (hc Fm hm hle).mono ?_
  rintro e w1 ⟨rfl, ht⟩
  obtain ⟨F', m, hs, hf⟩ := ht.out
  refine ⟨rfl, F', Fq, m, hr.fr hf fun k hk hk' => hd k hk' hk, fun k hk hk' => ?_, fun k hk => ?_, fun k hk => hF k (.inr hk), hf.mono fun k hk => hF k (.inl hk)⟩
  · rcases hs k hk with h | h
    · exact hd k h hk'
    · have := (hr.lt k hk').2; omega
  · rcases hk with hk | hk
    · exact (hs k hk).imp (fun h => hF k (.inl h)) id
    · exact .inl (hF k (.inr hk))
theorem Half.fr (h : Half base F w g r lb S S' w1) (hb : Below w1.heap.size w1 w2) : Half base F w g r lb S S' w2 := by
  obtain ⟨Fm, Fq, hm, hr, hd, hF, hq, hf⟩ := h.out
  exact ⟨Fm, Fq, hm.below hb, hr.below hb, hd, hF, hq, hf.trans (Fr.of_below hb) fun _ _ h => h.elim⟩
theorem Half.full (h : Half base F w g r lb S S' w1) (hc : ∀ Fq, RMem base Fq w1 r lb S → base ≤ w1.heap.size → Calls Try.prog f args w1 (ROpE base Fq r lb' S' v w1)) : Calls Try.prog f args w1 (PE base F g r lb' S' v w) := by
  obtain ⟨Fm, Fq, hm, hr, hd, hF, hq, hf⟩ := h.out
  have hle : base ≤ w1.heap.size := by have := hm.lt g hm.fg; omega
  refine (hc Fq hr hle).mono ?_
  rintro e w2 ⟨rfl, ht⟩
  obtain ⟨F', m, hs, hf2⟩ := ht.out
  have hm2 := hm.fr hf2 hd
  refine ⟨rfl, fun k => Fm k ∨ F' k, ⟨⟨Fm, F', hm2, m, fun k hk hk' => ?_, fun _ h => h⟩, fun k hk => hk.elim (fun h => hm2.lt k h) fun h => m.lt k h⟩, fun k hk => ?_, hf.trans hf2 fun k hk hk' => hq k hk'⟩
  · rcases hs k hk' with h | h
    · exact hd k hk h
    · have := (hm.lt k hk).2; omega
  · rcases hk with hk | hk
    · exact hF k (.inl hk)
    · rcases hs k hk with h | h
      · exact hF k (.inr h)
      · exact .inr (Nat.le_trans hf.size h)
end
theorem fill_op {base g : Nat} {F : Nat → Prop} {S' : Cm} {c : Int} {w : World} {e : Ending} {w' : World} (h : FillEnds base g F S' c w e w') : OpEnds base F g S' (.int .i64 c) w e w' := ⟨h.1, F, h.2.1, fun _ h => .inl h, h.2.2⟩
/-- the four accesses -/
def accC (S : Cm) (s : Stp) : Cm := if s.d = 1 then S.load s.a else if s.d = 2 then S.store s.a s.b else if s.d = 3 then S.swap s.a s.b s.c else S.add s.a s.b
section
variable {base g r lb : Nat} {F : Nat → Prop} {w : World} {S : Cm}
set_option maxRecDepth 100000 in
set_option maxHeartbeats 4000000 in
theorem access_any (s : Stp) (h : PB base F w g r lb S) (hb : S.bad ≤ 4611686018427387904) (hn : (S.tr.length + 1) * 40 ≤ 140737488355328) (hlb : (lb + 1) * 24 ≤ 140737488355328) :
    Calls Try.prog 78 #[.pointer (some ⟨g, 0, none⟩), .pointer (some ⟨r, 0, none⟩), .agg (fX s).toArray] w (PE base F g r (lb + 1) (accC S s) (.bool true) w) := by
  obtain ⟨sd, sa, sb, sc, ⟨xk, xa, xv, xo, xg⟩⟩ := s
  show Calls Try.prog 78 #[.pointer (some ⟨g, 0, none⟩), .pointer (some ⟨r, 0, none⟩), .agg #[.int .i64 sd, .int .i64 sa, .int .i64 sb, .int .i64 sc, .int .i8 xk, .int .i64 xa, .int .i64 xv, .int .i64 xo, .bool xg]] w _
  obtain ⟨U, hU⟩ : ∃ U, accC S ⟨sd, sa, sb, sc, ⟨xk, xa, xv, xo, xg⟩⟩ = U := ⟨_, rfl⟩
  rw [hU]
  have HU := Mm.hid hU
  have HB := Mm.hid hb
  have HN := Mm.hid hn
  have LB := Mm.hid hlb
  have BX := Mm.hid (Blk.new w #[.int .i64 sd, .int .i64 sa, .int .i64 sb, .int .i64 sc, .int .i8 xk, .int .i64 xa, .int .i64 xv, .int .i64 xo, .bool xg] 49)
  have BL := Mm.hid ((Below.refl w.heap.size w).alloc (Nat.le_refl _) (.cells #[.int .i64 sd, .int .i64 sa, .int .i64 sb, .int .i64 sc, .int .i8 xk, .int .i64 xa, .int .i64 xv, .int .i64 xo, .bool xg] 49))
  have H1 := Mm.hid (h.below BL.out)
  have FA : Hid (Fr F w (w.alloc (.cells #[.int .i64 sd, .int .i64 sa, .int .i64 sb, .int .i64 sc, .int .i8 xk, .int .i64 xa, .int .i64 xv, .int .i64 xo, .bool xg] 49))) := Fr.alloc F w _
  have NX : Hid (¬ F w.heap.size) := fun e => by have := (h.fl _ e).2; omega
  have box : ∀ W : World, Blk W w.heap.size 49 #[.int .i64 sd, .int .i64 sa, .int .i64 sb, .int .i64 sc, .int .i8 xk, .int .i64 xa, .int .i64 xv, .int .i64 xo, .bool xg] → W.cell? ⟨w.heap.size, 0, none⟩ = some (.int .i64 sd) ∧ W.cell? ⟨w.heap.size, 1, none⟩ = some (.int .i64 sa) ∧ W.cell? ⟨w.heap.size, 2, none⟩ = some (.int .i64 sb) ∧ W.cell? ⟨w.heap.size, 3, none⟩ = some (.int .i64 sc) := fun W h => ⟨h.cell 0, h.cell 1, h.cell 2, h.cell 3⟩
  have BOX := Mm.hid box
  clear hU hb hn hlb h box
  by_cases e1 : sd = 1
  · subst e1
    have E : Hid (S.load sa = U) := HU.out
    clear HU
    go_enter Try.func78, Try.ntmps78
    go_upto_region 1 with (fail)
    generalize w.alloc (.cells #[.int .i64 1, .int .i64 sa, .int .i64 sb, .int .i64 sc, .int .i8 xk, .int .i64 xa, .int .i64 xv, .int .i64 xo, .bool xg] 49) = w1 at *
    obtain ⟨c0, c1, c2, c3⟩ := BOX.out _ BX.out
    go_wp2_with fail
    refine (H1.out.half fun Fm m1 m2 => load_any base g Fm S sa _ m1 m2 HB.out HN.out).mono ?_
    rintro e w2 ⟨rfl, h2⟩
    have H2 := Mm.hid h2
    obtain ⟨_, _, _, _, _, _, _, hf⟩ := h2.out
    have X2 := Mm.hid (hf.blk BX.out NX.out)
    clear c0 c1 c2 c3 h2 hf BX H1
    obtain ⟨c0, c1, c2, c3⟩ := BOX.out _ X2.out
    go_wp2_with fail
    refine (H2.out.full fun Fq m1 m2 => rload_any sa m1 m2 HB.out HN.out LB.out).mono ?_
    rintro e w3 ⟨rfl, h3⟩
    rw [E.out] at h3
    have FN := Mm.hid (h3.after FA.out)
    clear h3 c0 c1 c2 c3
    go_wp2
    go_ret
    exact ⟨by simp, FN.out⟩
  by_cases e2 : sd = 2
  · subst e2
    have E : Hid (S.store sa sb = U) := HU.out
    clear HU
    go_enter Try.func78, Try.ntmps78
    go_upto_region 1 with (fail)
    generalize w.alloc (.cells #[.int .i64 2, .int .i64 sa, .int .i64 sb, .int .i64 sc, .int .i8 xk, .int .i64 xa, .int .i64 xv, .int .i64 xo, .bool xg] 49) = w1 at *
    obtain ⟨c0, c1, c2, c3⟩ := BOX.out _ BX.out
    have H1d : Hid (PB base F w1.drew g r lb S) := H1.out.fr (Fr.drew (fun _ => False) w1) fun _ _ h => h
    have X1d : Hid (Blk w1.drew w.heap.size 49 #[.int .i64 2, .int .i64 sa, .int .i64 sb, .int .i64 sc, .int .i8 xk, .int .i64 xa, .int .i64 xv, .int .i64 xo, .bool xg]) := BX.out.keep rfl
    go_wp2_with fail
    go_region_held3 (fun w' => w'.cell? ⟨w.heap.size, 1, none⟩ = some (.int .i64 sa) ∧ w'.cell? ⟨w.heap.size, 2, none⟩ = some (.int .i64 sb)) (go_keep)
      (first | (go_at_call 20; refine (H1d.out.half fun Fm m1 m2 => store_any base g Fm S sa _ sb m1 m2 HB.out HN.out).mono ?_; rintro e w2 ⟨rfl, h2⟩; have H2 := Mm.hid h2; obtain ⟨_, _, _, _, _, _, _, hf⟩ := h2.out; have X2 := Mm.hid (hf.blk X1d.out NX.out); have y1 := (BOX.out _ X2.out).2.1; have y2 := (BOX.out _ X2.out).2.2.1; clear h2 hf) | (go_at_call 89; refine (H2.out.full fun Fq m1 m2 => rstore_any sa sb m1 m2 HB.out HN.out LB.out).mono ?_; rintro e w3 ⟨rfl, h3⟩; rw [E.out] at h3; obtain ⟨_, _, _, hf⟩ := h3.out; have X3 := Mm.hid (hf.blk X1d.out NX.out); have y1 := (BOX.out _ X3.out).2.1; have y2 := (BOX.out _ X3.out).2.2.1; have FN := Mm.hid (PT.after (FA.out.trans (Fr.drew F w1) fun _ _ h => h) h3); clear h3 hf))
    all_goals go_wp2
    all_goals go_ret
    all_goals exact ⟨by simp, FN.out⟩
  by_cases e3 : sd = 3
  · subst e3
    have E : Hid (S.swap sa sb sc = U) := HU.out
    clear HU
    go_enter Try.func78, Try.ntmps78
    go_upto_region 1 with (fail)
    generalize w.alloc (.cells #[.int .i64 3, .int .i64 sa, .int .i64 sb, .int .i64 sc, .int .i8 xk, .int .i64 xa, .int .i64 xv, .int .i64 xo, .bool xg] 49) = w1 at *
    obtain ⟨c0, c1, c2, c3⟩ := BOX.out _ BX.out
    go_wp2_with fail
    refine (H1.out.half fun Fm m1 m2 => swap_any base g Fm S sa _ sb sc m1 m2 HB.out HN.out).mono ?_
    rintro e w2 ⟨rfl, h2⟩
    have H2 := Mm.hid h2
    obtain ⟨_, _, _, _, _, _, _, hf⟩ := h2.out
    have X2 := Mm.hid (hf.blk BX.out NX.out)
    clear c0 c1 c2 c3 h2 hf BX H1
    obtain ⟨c0, c1, c2, c3⟩ := BOX.out _ X2.out
    go_wp2_with fail
    refine (H2.out.full fun Fq m1 m2 => rswap_any sa sb sc m1 m2 HB.out HN.out LB.out).mono ?_
    rintro e w3 ⟨rfl, h3⟩
    rw [E.out] at h3
    have FN := Mm.hid (h3.after FA.out)
    clear h3 c0 c1 c2 c3
    go_wp2
    go_ret
    exact ⟨by simp, FN.out⟩
  have E : Hid (S.add sa sb = U) := by
    have := HU.out
    unfold accC at this
    simp only [e1, e2, e3, if_false] at this
    exact this
  have b1 : (sd == 1) = false := beq_eq_false_iff_ne.2 e1
  have b2 : (sd == 2) = false := beq_eq_false_iff_ne.2 e2
  have b3 : (sd == 3) = false := beq_eq_false_iff_ne.2 e3
  clear e1 e2 e3
  clear HU
  go_enter Try.func78, Try.ntmps78
  go_upto_region 1 with (fail)
  generalize w.alloc (.cells #[.int .i64 sd, .int .i64 sa, .int .i64 sb, .int .i64 sc, .int .i8 xk, .int .i64 xa, .int .i64 xv, .int .i64 xo, .bool xg] 49) = w1 at *
  obtain ⟨c0, c1, c2, c3⟩ := BOX.out _ BX.out
  go_wp2_with fail
  refine (H1.out.half fun Fm m1 m2 => add_any base g Fm S sa _ sb m1 m2 HB.out HN.out).mono ?_
  rintro e w2 ⟨rfl, h2⟩
  have H2 := Mm.hid h2
  obtain ⟨_, _, _, _, _, _, _, hf⟩ := h2.out
  have X2 := Mm.hid (hf.blk BX.out NX.out)
  clear c0 c1 c2 c3 h2 hf BX H1
  obtain ⟨c0, c1, c2, c3⟩ := BOX.out _ X2.out
  go_wp2_with fail
  refine (H2.out.full fun Fq m1 m2 => radd_any sa sb m1 m2 HB.out HN.out LB.out).mono ?_
  rintro e w3 ⟨rfl, h3⟩
  rw [E.out] at h3
  have FN := Mm.hid (h3.after FA.out)
  clear h3 c0 c1 c2 c3
  go_wp2
  go_ret
  exact ⟨by simp, FN.out⟩
end
end Go.Proofs.Ytkbobgblohohcaa

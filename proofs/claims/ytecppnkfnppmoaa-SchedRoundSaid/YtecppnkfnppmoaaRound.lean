/- Walk: the law SchedRound. -/
import Derived.Test.YtecppnkfnppmoaaRoundW
import Derived.Test.YtecppnkfnppmoaaFam2
namespace Go.Proofs.Ytecppnkfnppmoaa
open Go.RowKit Go.Mm
theorem mem5 {α : Type} {P : α → Prop} {a b c d e : α} (h1 : P a) (h2 : P b) (h3 : P c) (h4 : P d) (h5 : P e) : ∀ x ∈ [a, b, c, d, e], P x := by
  intro x hx
  simp only [List.mem_cons, List.not_mem_nil, or_false] at hx
  rcases hx with rfl | rfl | rfl | rfl | rfl <;> assumption
set_option maxRecDepth 100000 in
set_option maxHeartbeats 4000000 in
theorem law_round (a n o : Int) (w : World) (_ : (Lit.int .i64 a).wf = true) (_ : (Lit.int .i64 n).wf = true) (_ : (Lit.int .i64 o).wf = true) :
    Calls Try.prog 3 #[.int .i64 a, .int .i64 n, .int .i64 o] w fun e w' => e = .returned (.bool true) ∧ Below w.heap.size w w' := by
  go_enter Try.func3, Try.ntmps3
  go_wp2_with fail
  refine (ref_round_any a n _).mono ?_
  rintro e w1 ⟨Aa, ma, ca, rfl, hma, OA⟩
  go_wp2_with fail
  refine (ref_round_any o n _).mono ?_
  rintro e w2 ⟨Ab, mb, cb, rfl, hmb, OB⟩
  have WA : Hid (Want w2.heap.size w2 (.slice Aa ma ca) (iL (rnd a n))) := Mm.hid (((Want.of_own OA.out.2.1 (by rw [iL_len]; exact OA.out.1) (Nat.le_refl _)).below OB.out.2.2).more OB.out.2.2.size)
  have WB : Hid (Want w2.heap.size w2 (.slice Ab mb cb) (iL (rnd o n))) := Mm.hid (Want.of_own OB.out.2.1 (by rw [iL_len]; exact OB.out.1) (Nat.le_refl _))
  have B2 := Mm.hid (OA.out.2.2.trans (OB.out.2.2.mono OA.out.2.2.size))
  have LA := Mm.hid OA.out.1
  have hma2 : ma ≤ 1048576 := by rw [← LA.out]; exact rnd_len _ _
  have F0 := Mm.hid (Fam.nil w2.heap.size 3 w2 (Nat.le_refl _))
  have T0 := Mm.hid (Below.refl w2.heap.size w2)
  clear OA OB
  go_wp2_with fail
  refine (sched_round_any a n _).mono ?_
  rintro e w3 ⟨A1, m1, c1, rfl, h1, O⟩
  have F1 := Mm.hid (F0.out.snoc O.out.2.2 (by rw [iL_len, O.out.1]; exact O.out.2.1))
  have T1 := Mm.hid (T0.out.trans (O.out.2.2.mono T0.out.size))
  clear O F0 T0
  go_wp2_with fail
  refine (sched_round_any a n _).mono ?_
  rintro e w4 ⟨A2, m2, c2, rfl, h2, O⟩
  have F2 := Mm.hid (F1.out.snoc O.out.2.2 (by rw [iL_len, O.out.1]; exact O.out.2.1))
  have T2 := Mm.hid (T1.out.trans (O.out.2.2.mono T1.out.size))
  clear O F1 T1
  go_wp2_with fail
  refine (sched_round_any o n _).mono ?_
  rintro e w5 ⟨A3, m3, c3, rfl, h3, O⟩
  have F3 := Mm.hid (F2.out.snoc O.out.2.2 (by rw [iL_len, O.out.1]; exact O.out.2.1))
  have T3 := Mm.hid (T2.out.trans (O.out.2.2.mono T2.out.size))
  clear O F2 T2
  go_wp2_with fail
  refine (sched_round_any a n _).mono ?_
  rintro e w6 ⟨A4, m4, c4, rfl, h4, O⟩
  have F4 := Mm.hid (F3.out.snoc O.out.2.2 (by rw [iL_len, O.out.1]; exact O.out.2.1))
  have T4 := Mm.hid (T3.out.trans (O.out.2.2.mono T3.out.size))
  clear O F3 T3
  go_wp2_with fail
  refine (sched_round_any a n _).mono ?_
  rintro e w7 ⟨A5, m5, c5, rfl, h5, O⟩
  have F5 := Mm.hid (F4.out.snoc O.out.2.2 (by rw [iL_len, O.out.1]; exact O.out.2.1))
  have T5 := Mm.hid (T4.out.trans (O.out.2.2.mono T4.out.size))
  clear O F4 T4
  have F6 : Hid (Fam w2.heap.size 3 w7 [.slice A1 m1 c1, .slice A2 m2 c2, .slice A3 m3 c3, .slice A4 m4 c4, .slice A5 m5 c5] ([rnd a n, rnd a n, rnd o n, rnd a n, rnd a n].map iL)) := F5.out
  clear F5
  have hsz7 : w2.heap.size ≤ w7.heap.size := T5.out.size
  have G7 := Mm.hid ((Below.refl w7.heap.size w7).alloc (Nat.le_refl _) (.cells #[Value.slice A1 m1 c1, Value.slice A2 m2 c2, Value.slice A3 m3 c3, Value.slice A4 m4 c4, Value.slice A5 m5 c5] 22))
  have G8 := Mm.hid (G7.out.alloc (by simp) (.cells #[Value.slice Aa ma ca, Value.slice Aa ma ca, Value.slice Ab mb cb, Value.slice Aa ma ca, Value.slice Aa ma ca] 22))
  have F8 := Mm.hid (F6.out.below G8.out)
  have WA8 := Mm.hid ((WA.out.below T5.out).below G8.out)
  have WB8 := Mm.hid ((WB.out.below T5.out).below G8.out)
  have R1 := Mm.hid ((Rd.lit w7 #[Value.slice A1 m1 c1, Value.slice A2 m2 c2, Value.slice A3 m3 c3, Value.slice A4 m4 c4, Value.slice A5 m5 c5] 22 5 rfl).alloc (.cells #[Value.slice Aa ma ca, Value.slice Aa ma ca, Value.slice Ab mb cb, Value.slice Aa ma ca, Value.slice Aa ma ca] 22))
  have hs1 : (w7.alloc (.cells #[Value.slice A1 m1 c1, Value.slice A2 m2 c2, Value.slice A3 m3 c3, Value.slice A4 m4 c4, Value.slice A5 m5 c5] 22)).heap.size = w7.heap.size + 1 := by simp
  have R2 : Hid (Rd ((w7.alloc (.cells #[Value.slice A1 m1 c1, Value.slice A2 m2 c2, Value.slice A3 m3 c3, Value.slice A4 m4 c4, Value.slice A5 m5 c5] 22)).alloc (.cells #[Value.slice Aa ma ca, Value.slice Aa ma ca, Value.slice Ab mb cb, Value.slice Aa ma ca, Value.slice Aa ma ca] 22)) (some ⟨w7.heap.size + 1, 0, none⟩) 5 1 [Value.slice Aa ma ca, Value.slice Aa ma ca, Value.slice Ab mb cb, Value.slice Aa ma ca, Value.slice Aa ma ca]) := by
    have h := Rd.lit (w7.alloc (.cells #[Value.slice A1 m1 c1, Value.slice A2 m2 c2, Value.slice A3 m3 c3, Value.slice A4 m4 c4, Value.slice A5 m5 c5] 22)) #[Value.slice Aa ma ca, Value.slice Aa ma ca, Value.slice Ab mb cb, Value.slice Aa ma ca, Value.slice Aa ma ca] 22 5 rfl
    rw [hs1] at h
    exact h
  have K1 := Mm.hid ((Blk.new w7 #[Value.slice A1 m1 c1, Value.slice A2 m2 c2, Value.slice A3 m3 c3, Value.slice A4 m4 c4, Value.slice A5 m5 c5] 22).keep (Below.heap_alloc _ (.cells #[Value.slice Aa ma ca, Value.slice Aa ma ca, Value.slice Ab mb cb, Value.slice Aa ma ca, Value.slice Aa ma ca] 22) w7.heap.size (by simp)))
  have K2 : Hid (Blk ((w7.alloc (.cells #[Value.slice A1 m1 c1, Value.slice A2 m2 c2, Value.slice A3 m3 c3, Value.slice A4 m4 c4, Value.slice A5 m5 c5] 22)).alloc (.cells #[Value.slice Aa ma ca, Value.slice Aa ma ca, Value.slice Ab mb cb, Value.slice Aa ma ca, Value.slice Aa ma ca] 22)) (w7.heap.size + 1) 22 #[Value.slice Aa ma ca, Value.slice Aa ma ca, Value.slice Ab mb cb, Value.slice Aa ma ca, Value.slice Aa ma ca]) := by
    have h := Blk.new (w7.alloc (.cells #[Value.slice A1 m1 c1, Value.slice A2 m2 c2, Value.slice A3 m3 c3, Value.slice A4 m4 c4, Value.slice A5 m5 c5] 22)) #[Value.slice Aa ma ca, Value.slice Aa ma ca, Value.slice Ab mb cb, Value.slice Aa ma ca, Value.slice Aa ma ca] 22
    rw [hs1] at h
    exact h
  clear hs1
  have AP := Mm.hid (ApIn.of (m := 5) (wv := [.slice Aa ma ca, .slice Aa ma ca, .slice Ab mb cb, .slice Aa ma ca, .slice Aa ma ca]) F8.out rfl rfl R1.out R2.out (fun ad h => by cases h; exact ⟨22, _, by decide, K1.out⟩) (fun ad h => by cases h; exact ⟨22, _, by decide, K2.out⟩) (fun i v xs hv hx => by
    rcases i with _ | _ | _ | _ | _ | i <;> simp at hv hx <;> subst hv hx
    · exact WA8.out.out
    · exact WA8.out.out
    · exact WB8.out.out
    · exact WA8.out.out
    · exact WA8.out.out))
  have lens : ∀ zs ∈ [rnd a n, rnd a n, rnd o n, rnd a n, rnd a n], zs.length ≤ 17592186044404 := mem5 (P := fun zs : List Int => zs.length ≤ 17592186044404) (by have := rnd_len a n; omega) (by have := rnd_len a n; omega) (by have := rnd_len o n; omega) (by have := rnd_len a n; omega) (by have := rnd_len a n; omega)
  have LE := Mm.hid lens
  clear lens F6 K1 K2 R1 R2
  go_wp2_with fail
  refine (apart_true w2.heap.size 5 _ _ 5 5 _ _ _ _ AP.out (by omega) LE.out (by simp; omega) (Nat.le_refl _) (Nat.le_refl _)).mono ?_
  rintro e w8 ⟨rfl, hf⟩
  have B8 := Mm.hid (hf.below (B := w2.heap.size) (fun g ⟨u, hu, hg⟩ => (F8.out.blk u hu g hg).1) (by simp; omega))
  have WA9 := Mm.hid (WA8.out.fr hf (fun g hg ⟨u, hu, hg'⟩ => by have := (F8.out.blk u hu g hg').1; omega))
  have T9 := Mm.hid (T5.out.trans ((G8.out.mono hsz7).trans B8.out))
  clear hf
  go_wp2_with fail
  refine (sched_round_any a n _).mono ?_
  rintro e w9 ⟨A6, m6, c6, rfl, h6, O⟩
  have R9 : Hid (Rd w9 A6 m6 1 (iL (rnd a n))) := Rd.of_own O.out.2.1
  have T10 := Mm.hid (T9.out.trans (O.out.2.2.mono T9.out.size))
  have WA10 := Mm.hid (WA9.out.below O.out.2.2)
  have hm6 : m6 = ma := by rw [← LA.out, ← O.out.1]
  subst hm6
  have R10 : Hid (Rd w9 Aa m6 1 (iL (rnd a n))) := by
    obtain ⟨A, c, e1, _, e2, _⟩ := WA10.out.out
    rw [iL_len, LA.out] at e1 e2
    injection e1 with e1 _ _
    subst e1
    exact e2
  clear O
  go_wp2_with fail
  refine (same_true _ _ _ _ _ _ _ _ R9.out R10.out h6 hma (by omega)).mono ?_
  rintro e w10 ⟨rfl, d, rfl⟩
  go_wp2_with fail
  go_ret
  have FB := B2.out.trans (T10.out.mono B2.out.size)
  exact ⟨rfl, ⟨FB.os, FB.tape, FB.output, FB.size, FB.block⟩⟩
end Go.Proofs.Ytecppnkfnppmoaa

/- Walk: the law SchedFair. -/
import Derived.Test.YtecppnkfnppmoaaKept
import Derived.Test.YtecppnkfnppmoaaFairR
namespace Go.Proofs.Ytecppnkfnppmoaa
open Go.RowKit Go.Mm Go.Fly
def fI (x : Int) : List Value := [.int .i64 x]
def gI (x : Int) : Prop := (Lit.int .i64 x).wf = true
set_option maxRecDepth 100000 in
theorem open_nums {H : Type} {enc : TypeId × Value → H} {w : World} {b0 : Nat} {spare : Nat → Bool} {held : Bool} {v : Value} {d : DataW H} {ps : List MemPlace} {ts : List TypeId} {ds : List (DataW H)} {j : Nat} (hval : Value.okWide Try.prog w .any b0 22 v) (hd : DataW.Trod enc Try.prog w 0 spare held 22 v d ps)
    (hz : (DataW.weightsEach Try.prog ts ds).all (· ≤ reachBytes) = true) (hj : ts[j]? = some 22) (hj' : ds[j]? = some d) :
    ∃ A n c xs, v = .slice A n c ∧ Sl w 1 8 fI gI A n c xs :=
  open_sl fI gI Try.underlying22 (by kernel_rfl) (by decide) (by kernel_rfl) (fun _ _ _ h => by
    obtain ⟨m, rfl, _, hw⟩ := DataW.trod_int Try.underlying3 h
    exact ⟨m, rfl, hw⟩) hval hd hz hj hj'
noncomputable def fairC (ps es : List Int) (W : Int) : Bool := @decide (Fairly ps es W) (Classical.propDecidable _)
theorem wf64 {x : Int} (h : (Lit.int .i64 x).wf = true) : -9223372036854775808 ≤ x ∧ x ≤ 9223372036854775807 := by
  simpa [Lit.wf, IntKind.min, IntKind.max, IntKind.signed, IntKind.bits] using h
def FairIs (b : Bool) (w : World) (e : Ending) (w' : World) : Prop := e = .returned (.bool b) ∧ w = w'
theorem FairEnds.is {ps es : List Int} {W : Int} {w : World} {e : Ending} {w' : World} (h : FairEnds ps es W w e w') : FairIs (fairC ps es W) w e w' := by
  obtain ⟨b, rfl, hb, rfl⟩ := h
  refine ⟨?_, rfl⟩
  congr 2
  unfold fairC
  cases b
  · exact (@decide_eq_false _ (Classical.propDecidable _) (fun h => by have := hb.2 h; cases this)).symm
  · exact (@decide_eq_true _ (Classical.propDecidable _) (hb.1 rfl)).symm
theorem rev_set {xs : List Int} {k : Nat} {x : Int} (hk : k < xs.length) (hx : xs.reverse[k]? = some x) : (xs.reverse.take k ++ xs.drop k ++ List.replicate 24 (-77 : Int)).set k x = xs.reverse.take (k + 1) ++ xs.drop (k + 1) ++ List.replicate 24 (-77) := by
  rw [List.set_append_left _ _ (by simp; omega), List.set_append_right _ _ (by simp; omega), List.length_take, List.length_reverse, Nat.min_eq_left (by omega), Nat.sub_self, List.drop_eq_getElem_cons hk, List.set_cons_zero, List.take_add_one, hx]
  simp
set_option maxRecDepth 100000 in
set_option maxHeartbeats 4000000 in
theorem law_fair (A1 : Option Addr) (n1 c1 : Nat) (ps : List Int) (A2 : Option Addr) (n2 c2 : Nat) (es : List Int) (W : Int) (w : World) (h1 : Sl w 1 8 fI gI A1 n1 c1 ps) (h2 : Sl w 1 8 fI gI A2 n2 c2 es) (hW : (Lit.int .i64 W).wf = true) :
    Calls Try.prog 5 #[.slice A1 n1 c1, .slice A2 n2 c2, .int .i64 W] w fun e w' => e = .returned (.bool true) ∧ Below w.heap.size w w' := by
  have R1 : Hid (Rd w A1 n1 1 (iL ps)) := by have := h1.rd; rw [show ps.flatMap fI = iL ps from iL_flat ps] at this; exact this
  have R2 : Hid (Rd w A2 n2 1 (iL es)) := by have := h2.rd; rw [show es.flatMap fI = iL es from iL_flat es] at this; exact this
  have L1 := Mm.hid h1.len
  have L2 := Mm.hid h2.len
  have b1 : n1 ≤ 17592186043904 := by have := h1.room; omega
  have b2 : n2 ≤ 17592186043904 := by have := h2.room; omega
  have q1 : n1 ≤ c1 := h1.cap
  have q2 : n2 ≤ c2 := h2.cap
  have hWm : W ≤ 9223372036854775807 := by
    have := wf64 hW
    omega
  clear h1 h2 hW
  go_enter Try.func5, Try.ntmps5
  go_wp2_with fail
  refine (ref_fair_any A1 n1 c1 A2 n2 c2 ps es W _ R1.out R2.out q1 q2 (by omega) (by omega) hWm).mono ?_
  rintro e w0 he
  obtain ⟨rfl, rfl⟩ := he.is
  have FB : Hid (∃ b, fairC ps es W = b) := ⟨_, rfl⟩
  go_wp2_with fail
  refine (twin_any A1 n1 c1 ps _ R1.out L1.out b1 q1).mono ?_
  rintro e w1 ⟨g1, d1, rfl, hd1, hd1', T1⟩
  go_wp2_with fail
  refine (twin_any A2 n2 c2 es _ (R2.out.below T1.out.2.2) L2.out b2 q2).mono ?_
  rintro e w2 ⟨g2, d2, rfl, hd2, hd2', T2⟩
  have P1 : Hid (∀ w3, Below w1.heap.size w1 w3 → w3.ownsRow w.heap.size 3 1 (.slice (some ⟨g1, 0, none⟩) (n1 + 24) d1) (n1 + 24) (iL (marked ps))) := Mm.hid fun w3 hb => (Fr.of_below hb).own T1.out.2.1 fun _ _ h => h
  have O1 := Mm.hid (P1.out w2 T2.out.2.2)
  have O2 := Mm.hid T2.out.2.1
  have B2 := Mm.hid (T1.out.2.2.trans (T2.out.2.2.mono T1.out.2.2.size))
  have hg1 := T1.out.1
  have hs1 : w.heap.size ≤ w1.heap.size := T1.out.2.2.size
  have hg12 : g1 < w1.heap.size := by
    obtain ⟨_, _, hv, _, _, h, _⟩ := own_blk T1.out.2.1 (by omega)
    injection hv with e1 _ _
    injection e1 with e1
    injection e1 with e1
    rw [e1]; exact h
  have hg2 : w1.heap.size ≤ g2 := T2.out.1
  have Q1 : Hid (Rd w2 (some ⟨g1, 0, none⟩) n1 1 (iL ps)) := Rd.prefix O1.out (by rw [iL_take, marked_take L1.out]) (by omega)
  have Q2 : Hid (Rd w2 (some ⟨g2, 0, none⟩) n2 1 (iL es)) := Rd.prefix O2.out (by rw [iL_take, marked_take L2.out]) (by omega)
  have S1 := Mm.hid (R1.out.below B2.out)
  have S2 := Mm.hid (R2.out.below B2.out)
  clear P1 T1 T2 he
  obtain ⟨fb, hfb⟩ : ∃ b, fairC ps es W = b := ⟨_, rfl⟩
  rw [hfb]
  have HFB := Mm.hid hfb
  clear hfb FB
  have bb : Hid ((fb == fb) = true) := by show _ = _; simp
  go_wp2_with fail
  refine (fair_any (some ⟨g1, 0, none⟩) n1 d1 (some ⟨g2, 0, none⟩) n2 d2 ps es W _ Q1.out Q2.out (by omega) hd1' (by omega) (by omega) (by omega) hWm).mono ?_
  rintro e w3 he
  obtain ⟨rfl, rfl⟩ := he.is
  rw [HFB.out]
  clear he
  go_wp2_with fail
  refine (fair_any (some ⟨g1, 0, none⟩) n1 d1 (some ⟨g2, 0, none⟩) n2 d2 ps es W _ Q1.out Q2.out (by omega) hd1' (by omega) (by omega) (by omega) hWm).mono ?_
  rintro e w3 he
  obtain ⟨rfl, rfl⟩ := he.is
  rw [HFB.out]
  clear he
  have hbb := bb.out
  clear bb
  go_wp2_with fail
  refine (kept_any _ g1 d1 A1 n1 c1 ps _ O1.out S1.out L1.out b1 hd1 hd1' q1).mono ?_
  rintro e w4 ⟨rfl, k1, rfl⟩
  go_wp2_with fail
  have O2' : Hid ((w2.drewN k1).ownsRow w1.heap.size 3 1 (.slice (some ⟨g2, 0, none⟩) (n2 + 24) d2) (n2 + 24) (iL (marked es))) := own_same O2.out fun _ => rfl
  have S2' : Hid (Rd (w2.drewN k1) A2 n2 1 (iL es)) := Rd.drewN S2.out
  refine (kept_any _ g2 d2 A2 n2 c2 es _ O2'.out S2'.out L2.out b2 hd2 hd2' q2).mono ?_
  rintro e w4 ⟨rfl, k2, rfl⟩
  have O3 : Hid (((w2.drewN k1).drewN k2).ownsRow w.heap.size 3 1 (.slice (some ⟨g1, 0, none⟩) (n1 + 24) d1) (n1 + 24) (iL (ps.reverse.take 0 ++ ps.drop 0 ++ List.replicate 24 (-77)))) := own_same O1.out fun _ => rfl
  have O4 : Hid (((w2.drewN k1).drewN k2).ownsRow w1.heap.size 3 1 (.slice (some ⟨g2, 0, none⟩) (n2 + 24) d2) (n2 + 24) (iL (marked es))) := own_same O2.out fun _ => rfl
  have B4 : Hid (Below w.heap.size w ((w2.drewN k1).drewN k2)) := ⟨B2.out.os, B2.out.tape, B2.out.output, B2.out.size, B2.out.block⟩
  obtain ⟨w5, hw5⟩ : ∃ w5, w5 = (w2.drewN k1).drewN k2 := ⟨_, rfl⟩
  rw [← hw5] at O3 O4 B4
  rw [World.drewN_drewN] at hw5
  rw [World.drewN_drewN]
  rw [← hw5]
  clear hw5 O1 O2 O2' S1 S2 S2' Q1 Q2 B2
  go_wp2_with fail
  go_loopw [13] (fun i wr => ∃ k : Nat, k ≤ n1 ∧ i = .int .i64 (k : Nat) ∧ Hid (wr.ownsRow w.heap.size 3 1 (.slice (some ⟨g1, 0, none⟩) (n1 + 24) d1) (n1 + 24) (iL (ps.reverse.take k ++ ps.drop k ++ List.replicate 24 (-77))) ∧ wr.ownsRow w1.heap.size 3 1 (.slice (some ⟨g2, 0, none⟩) (n2 + 24) d2) (n2 + 24) (iL (marked es)) ∧ Below w.heap.size w wr)) (fun i _ => n1 - (intOf i).toNat)
  case atStart => exact ⟨0, Nat.zero_le _, rfl, O3.out, O4.out, B4.out⟩
  case round =>
    obtain ⟨k, hk, rfl, HK⟩ := hrel
    clear O3 O4 B4
    by_cases hlt : k < n1
    · obtain ⟨x, hx⟩ : ∃ x, ps.reverse[k]? = some x := ⟨_, List.getElem?_eq_getElem (by rw [List.length_reverse, L1.out]; exact hlt)⟩
      have hx2 : ps[n1 - 1 - k]? = some x := by
        rw [List.getElem?_reverse (by rw [L1.out]; exact hlt), L1.out] at hx
        exact hx
      obtain ⟨ad1, hA1, _, f1⟩ := (R1.out.below HK.out.2.2).cell (iL_get hx2)
      subst hA1
      obtain ⟨g', cap', hv, _, _, _, hcell, hfree⟩ := own_blk HK.out.1 (by omega)
      injection hv with e1 _ _
      injection e1 with e1
      injection e1 with e1
      subst e1
      obtain ⟨u, hu⟩ : ∃ u, (iL (ps.reverse.take k ++ ps.drop k ++ List.replicate 24 (-77)))[k]? = some u := ⟨_, List.getElem?_eq_getElem (by rw [iL_len]; simp [L1.out]; omega)⟩
      have f2 := hcell k u hu
      have f3 := hfree k
      have i0 : (0 : Int) ≤ (n1 : Int) - 1 - (k : Int) := by omega
      have i1 : (n1 : Int) - 1 - (k : Int) < (n1 : Int) := by omega
      have hs := Fr.setCell wr ⟨g1, k, none⟩ (.int .i64 x)
      have FN : Hid ((wr.setCell ⟨g1, k, none⟩ (.int .i64 x)).ownsRow w.heap.size 3 1 (.slice (some ⟨g1, 0, none⟩) (n1 + 24) d1) (n1 + 24) (iL (ps.reverse.take (k + 1) ++ ps.drop (k + 1) ++ List.replicate 24 (-77))) ∧ (wr.setCell ⟨g1, k, none⟩ (.int .i64 x)).ownsRow w1.heap.size 3 1 (.slice (some ⟨g2, 0, none⟩) (n2 + 24) d2) (n2 + 24) (iL (marked es)) ∧ Below w.heap.size w (wr.setCell ⟨g1, k, none⟩ (.int .i64 x))) := by
        refine ⟨?_, ?_, HK.out.2.2.setCell hg1 _⟩
        · have := own_set HK.out.1 k (.int .i64 x)
          rw [iL_set, rev_set (by rw [L1.out]; exact hlt) hx] at this
          exact this
        · refine hs.own HK.out.2.1 fun b hb (e : b = g1) => ?_
          have hb2 : g2 = b := by simpa [Value.ownBlock] using hb
          omega
      clear hcell hfree hu hx hx2 hs
      go_wp2
      go_roundw
      case rel => exact ⟨k + 1, by omega, by go_num, FN.out⟩
      case measure => simp [intOf] <;> omega
    · have hkn : k = n1 := by omega
      subst hkn
      have LR : Hid (ps.reverse.length = k) := by show _ = _; rw [List.length_reverse, L1.out]
      have QP : Hid (∀ d, Rd (wr.drewN d) (some ⟨g1, 0, none⟩) k 1 (iL ps.reverse)) := Mm.hid fun d => Rd.drewN (Rd.prefix HK.out.1 (by
        rw [iL_take]
        congr 1
        rw [List.take_of_length_le (l := ps.reverse) (by rw [LR.out]; exact Nat.le_refl _), List.append_assoc, List.take_left' LR.out]) (by omega))
      have QE : Hid (∀ d, Rd (wr.drewN d) (some ⟨g2, 0, none⟩) n2 1 (iL es)) := Mm.hid fun d => Rd.drewN (Rd.prefix HK.out.2.1 (by rw [iL_take, marked_take L2.out]) (by omega))
      have QR : Hid (∀ d, Rd (wr.drewN d) A2 n2 1 (iL es)) := Mm.hid fun d => Rd.drewN (R2.out.below HK.out.2.2)
      have FIN : Hid (∀ d, Below w.heap.size w (wr.drewN d)) := fun d => ⟨HK.out.2.2.os, HK.out.2.2.tape, HK.out.2.2.output, HK.out.2.2.size, HK.out.2.2.block⟩
      have hkd : k ≤ d1 := by omega
      have hn2d : n2 ≤ d2 := by omega
      have hb1' : k ≤ 17592186044416 := by omega
      have hb2' : n2 ≤ 17592186044416 := by omega
      go_wp2_with fail
      go_quiet ((first | (go_at_call 24; exact Calls.quiet_of_same ((fair_any (some ⟨g1, 0, none⟩) k d1 (some ⟨g2, 0, none⟩) n2 d2 ps.reverse es W _ (QP.out _) (QE.out _) hkd hd1' hn2d hb1' hb2' hWm).mono fun _ _ he => ⟨he.is.1, he.is.2.symm⟩)) | (go_at_call 22; exact Calls.quiet_of_same ((ref_fair_any (some ⟨g1, 0, none⟩) k d1 A2 n2 c2 ps.reverse es W _ (QP.out _) (QR.out _) hkd q2 hb1' hb2' hWm).mono fun _ _ he => ⟨he.is.1, he.is.2.symm⟩))))
      go_wp2
      go_ret
      exact ⟨by simp, FIN.out _⟩
end Go.Proofs.Ytecppnkfnppmoaa

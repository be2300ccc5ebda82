/- Walk: the law LockSteps, where the picks are at most 2^20. -/
import Derived.Test.YtkbobgblohohcaaReady
import Derived.Deep.CutRange
namespace Go.Proofs.Ytkbobgblohohcaa
open Go.RowKit Go.Mm Go.Cells
section
variable {base g : Nat} {w0 w w' : World} {G : Nat → Prop} {S S' : Cm}
def TlE (base g : Nat) (w0 w : World) (G : Nat → Prop) (S : Cm) (n : Nat) (e : Ending) (w' : World) : Prop := ∃ A cp, e = .returned (.slice A n cp) ∧ n ≤ cp ∧ Hid (HasG base g w0 G S w' ∧ ∀ k, G k → w'.heap[k]? = w.heap[k]?)
theorem HasG.trace (h : HasG base g w0 G S w) {n : Nat} (hl : S.tr.length = n) (hn : n * 40 ≤ 140737488355328) : Calls Try.prog 27 #[.pointer (some ⟨g, 0, none⟩)] w (TlE base g w0 w G S n) := by
  obtain ⟨F, h1, _⟩ := h.out
  refine (trace_any base g F S w h1 (by omega)).mono ?_
  rintro e w1 ⟨A, m, cp, rfl, hc, O⟩
  obtain rfl : m = n := by rw [← hl]; exact O.out.1.symm
  exact ⟨A, cp, rfl, hc, h.after O.out.2.2⟩
end
/-- how it stands: the two words, the waiter, how many steps it has made, how many have left -/
structure LS (bg q : Int) (k : Nat) (S : Cm) (W : Wt) (steps : Nat) (v : Int) (l : Nat) : Prop where
  w0 : ∃ u, S.ws[0]? = some u ∧ (steps = 0 → u = bg)
  w1 : S.ws[1]? = some v
  val : v = wrap64 (q + (l : Int))
  new : steps = 0 → W = ⟨0, false, false⟩
  old : 0 < steps → W.drawn = true ∧ W.num = bg
  tr : S.tr.length ≤ 2 + k
  bad : S.bad ≤ k
theorem wrap_one (x : Int) : wrap64 (wrap64 x + 1) = wrap64 (x + 1) := by unfold wrap64; omega
theorem load_ws (S : Cm) (a : Int) : (S.load a).ws = S.ws ∧ (S.load a).tr.length = S.tr.length + 1 ∧ (S.load a).bad ≤ S.bad + 1 := ⟨rfl, by simp [Cm.load], looked_le S a⟩
/-- a step: what is told, how the trace grows -/
theorem LS.step {bg q v : Int} {k steps l : Nat} {S : Cm} {W : Wt} (h : LS bg q k S W steps v l) (hb : bg ≠ poison) :
    LS bg q (k + 1) (stepW 0 1 W S).2.2 (stepW 0 1 W S).2.1 (steps + 1) v l ∧ (stepW 0 1 W S).2.2.tr.length = S.tr.length + (if W.holds then 0 else 1) ∧ (W.holds = true → (stepW 0 1 W S).1 = true) ∧ (steps = 0 → (stepW 0 1 W S).1 = false) ∧ (stepW 0 1 W S).2.1.holds = (stepW 0 1 W S).1 := by
  obtain ⟨u, hu, hu0⟩ := h.w0
  obtain ⟨num, drawn, holds⟩ := W
  cases holds
  · cases drawn
    · have hs : steps = 0 := by
        rcases Nat.eq_zero_or_pos steps with h0 | h0
        · exact h0
        · have := (h.old h0).1; cases this
      have hub := hu0 hs
      subst hub
      have hl := (look_good (i := 0) hu hb).1
      obtain ⟨a1, a2, a3⟩ := add_ws (i := 0) (y := 1) hu hb
      have e : stepW 0 1 ⟨num, false, false⟩ S = (false, ⟨u, true, false⟩, S.add 0 1) := by
        unfold stepW
        rw [show S.look 0 = (u, 0) from hl]
        rfl
      rw [e]
      refine ⟨⟨⟨_, by rw [show (S.add 0 1).ws = _ from a1]; exact set_get hu, fun h => by omega⟩, ?_, h.val, fun h => by omega, fun _ => ⟨rfl, rfl⟩, ?_, ?_⟩, ?_, fun h => by (cases h), fun _ => rfl, rfl⟩
      · rw [show (S.add 0 1).ws = _ from a1, List.getElem?_set, if_neg (by decide)]
        exact h.w1
      · rw [show (S.add 0 1).tr.length = _ from a3]; have := h.tr; omega
      · rw [show (S.add 0 1).bad = _ from a2]; have := h.bad; omega
      · exact a3
    · obtain ⟨b1, b2, b3⟩ := load_ws S 1
      have hs : 0 < steps := by
        rcases Nat.eq_zero_or_pos steps with h0 | h0
        · have := h.new h0; cases this
        · exact h0
      obtain ⟨_, hnum⟩ := h.old hs
      have e : stepW 0 1 ⟨num, true, false⟩ S = ((S.look 1).2 == 0 && (S.look 1).1 == num, ⟨num, true, (S.look 1).2 == 0 && (S.look 1).1 == num⟩, S.load 1) := rfl
      rw [e]
      refine ⟨⟨⟨u, hu, fun h => by omega⟩, h.w1, h.val, fun h => by omega, fun _ => ⟨rfl, hnum⟩, ?_, ?_⟩, b2, fun h => by (cases h), fun h => by omega, rfl⟩
      · show (S.load 1).tr.length ≤ _; have := h.tr; omega
      · show (S.load 1).bad ≤ _; have := h.bad; omega
  · have hs : 0 < steps := by
      rcases Nat.eq_zero_or_pos steps with h0 | h0
      · have := h.new h0; cases this
      · exact h0
    have e : stepW 0 1 ⟨num, drawn, true⟩ S = (true, ⟨num, drawn, true⟩, S) := rfl
    rw [e]
    exact ⟨⟨⟨u, hu, fun h => by omega⟩, h.w1, h.val, fun h => by omega, fun _ => h.old hs, by have := h.tr; show S.tr.length ≤ _; omega, by have := h.bad; show S.bad ≤ _; omega⟩, rfl, fun _ => rfl, fun h => by omega, rfl⟩
theorem LS.keep {bg q v : Int} {k steps l : Nat} {S : Cm} {W : Wt} (h : LS bg q k S W steps v l) : LS bg q (k + 1) S W steps v l := ⟨h.w0, h.w1, h.val, h.new, h.old, by have := h.tr; omega, by have := h.bad; omega⟩
theorem LS.leave {bg q v : Int} {k steps l : Nat} {S : Cm} {W : Wt} (h : LS bg q k S W steps v l) (hv : v ≠ poison) : LS bg q (k + 1) (S.add 1 1) W steps (wrap64 (v + 1)) (l + 1) ∧ (S.look 1).2 = 0 ∧ (S.add 1 1).tr.length = S.tr.length + 1 := by
  obtain ⟨u, hu, hu0⟩ := h.w0
  obtain ⟨a1, a2, a3⟩ := add_ws (i := 1) (y := 1) h.w1 hv
  have hl := (look_good (i := 1) h.w1 hv).1
  refine ⟨⟨⟨u, ?_, hu0⟩, ?_, ?_, h.new, h.old, ?_, ?_⟩, by rw [show S.look 1 = (v, 0) from hl], a3⟩
  · rw [show (S.add 1 1).ws = _ from a1, List.getElem?_set, if_neg (by decide)]
    exact hu
  · rw [show (S.add 1 1).ws = _ from a1]; exact set_get h.w1
  · rw [h.val, wrap_one]; congr 1; omega
  · rw [show (S.add 1 1).tr.length = _ from a3]; have := h.tr; omega
  · rw [show (S.add 1 1).bad = _ from a2]; have := h.bad; omega
theorem wrap_zero (x : Int) : wrap64 x = wrap64 (wrap64 x + ((0 : Nat) : Int)) := by unfold wrap64; omega
set_option maxRecDepth 100000 in
set_option maxHeartbeats 2000000 in
theorem law_locksteps (begin_ others : Int) (A : Option Addr) (N c : Nat) (xs : List Int) (w : World) (_ : (Lit.int .i64 begin_).wf = true) (_ : (Lit.int .i64 others).wf = true) (h : Sl w 1 8 fI gI A N c xs) (hN : N ≤ 1048576) :
    Calls Try.prog 14 #[.int .i64 begin_, .int .i64 others, .slice A N c] w fun e w' => e = .returned (.bool true) ∧ Below w.heap.size w w' := by
  have R : Hid (Rd w A N 1 (iL xs)) := by have := h.rd; rw [show xs.flatMap fI = iL xs from iL_flat xs] at this; exact this
  have LN := Mm.hid h.len
  have hcap : N ≤ c := h.cap
  clear h
  go_enter Try.func14, Try.ntmps14
  go_wp2_with fail
  refine (new_two _).mono ?_
  rintro e w1 ⟨g, rfl, N1⟩
  have H1 : Hid (HasG w.heap.size g w (fun _ => False) (Cm.new 2) w1) := ⟨_, N1.out.2.1, N1.out.2.2, fun _ h => h.elim⟩
  clear N1
  go_upto_region 4 with (fail)
  go_cut [37] from 31 to 37 (fun t wc => ∃ b : Bool, t = .bool b ∧ Hid (b = false → begin_ ≠ poison ∧ wrap64 (begin_ + 1) ≠ poison) ∧ w1 = wc)
  case first =>
    by_cases q1 : begin_ = poison
    · have b1 : (begin_ == -4611686018427387904) = true := beq_iff_eq.2 q1
      clear q1
      go_wp2_with fail
      go_meet
      exact ⟨_, rfl, fun h => (by cases h), rfl⟩
    · have b1 : (begin_ == -4611686018427387904) = false := beq_eq_false_iff_ne.2 q1
      have Q1 := Mm.hid q1
      clear q1
      by_cases q2 : wrap64 (begin_ + 1) = poison
      · have b2 : (wrap64 (begin_ + 1) == -4611686018427387904) = true := beq_iff_eq.2 q2
        clear q2
        go_wp2_with fail
        go_meet
        exact ⟨_, rfl, fun h => (by cases h), rfl⟩
      · have b2 : (wrap64 (begin_ + 1) == -4611686018427387904) = false := beq_eq_false_iff_ne.2 q2
        have Q2 := Mm.hid q2
        clear q2
        go_wp2_with fail
        go_meet
        exact ⟨_, rfl, fun _ => ⟨Q1.out, Q2.out⟩, rfl⟩
  case rest =>
    obtain ⟨b, rfl, HB, rfl⟩ := hcut
    go_upto_if 37 with (fail)
    go_cut [0] from 37 to 37 (fun t wc => ∃ bg : Int, t = .int .i64 bg ∧ Hid (bg ≠ poison ∧ wrap64 (bg + 1) ≠ poison) ∧ w1 = wc)
    case first =>
      cases b
      · go_wp2_with fail
        go_meet
        exact ⟨_, rfl, HB.out (by first | rfl | trivial), rfl⟩
      · go_wp2_with fail
        go_meet
        exact ⟨_, rfl, ⟨by decide, by unfold wrap64 poison; omega⟩, rfl⟩
    case rest =>
      obtain ⟨bg, rfl, HG, rfl⟩ := hcut
      clear HB
      have x0 : Hid ((Cm.new 2).ws[0]? = some 0) := rfl
      have s0 := Mm.hid (store_ws (y := bg) x0.out (by decide))
      have l0 := Mm.hid (look_good x0.out (by decide)).1
      go_wp2_with fail
      refine (H1.out.op fun F m1 m2 => store_any _ g F _ (0 : Nat) _ bg m1 m2 (by decide) (by decide)).mono ?_
      rintro e w2 ⟨rfl, h2, _⟩
      have H2 := Mm.hid h2
      clear h2 H1
      go_wp2_with fail
      refine (pick17_any others 3 _ (by decide) (by decide)).mono ?_
      rintro e w3 ⟨p, hp, rfl, rfl, PX⟩
      go_wp2_with fail
      have q1 : ((Cm.new 2).store (0 : Nat) bg).ws[1]? = some 0 := by rw [s0.out.1]; rfl
      have X1 := Mm.hid q1
      obtain ⟨q, hq⟩ : ∃ q, wrap64 (bg - (p : Int)) = q := ⟨_, rfl⟩
      have s1 := Mm.hid (store_ws (y := q) X1.out (by decide))
      have l1 := Mm.hid (look_good X1.out (by decide)).1
      have QV : Hid (q = wrap64 (q + ((0 : Nat) : Int))) := by show _ = _; rw [← hq]; exact wrap_zero _
      have HQ := Mm.hid hq
      have LS0 : Hid (LS bg q 0 (((Cm.new 2).store (0 : Nat) bg).store (1 : Nat) q) ⟨0, false, false⟩ 0 q 0) := by
        refine ⟨⟨bg, ?_, fun _ => rfl⟩, ?_, QV.out, fun _ => rfl, fun h => by omega, ?_, ?_⟩
        · rw [s1.out.1, List.getElem?_set, if_neg (by decide), s0.out.1]; exact set_get x0.out
        · rw [s1.out.1]; exact set_get X1.out
        · rw [s1.out.2.2, s0.out.2.2]; exact Nat.le_refl _
        · rw [s1.out.2.1, s0.out.2.1]; exact Nat.le_refl _
      have BT : Hid (((Cm.new 2).store (0 : Nat) bg).bad = 0 ∧ ((Cm.new 2).store (0 : Nat) bg).tr.length = 1) := ⟨s0.out.2.1, s0.out.2.2⟩
      have T2 : Hid ((((Cm.new 2).store (0 : Nat) bg).store (1 : Nat) q).tr.length = 2) := s1.out.2.2.trans (by rw [BT.out.2])
      have LL2 : Hid ((((Cm.new 2).store (0 : Nat) bg).store (1 : Nat) q).ws.length = 2) := by show _ = _; rw [s1.out.1, List.length_set, s0.out.1, List.length_set]; rfl
      clear q1 hq
      rw [HQ.out]
      refine (H2.out.op fun F m1 m2 => store_any _ g F _ (1 : Nat) _ q m1 m2 (by rw [BT.out.1]; decide) (by rw [BT.out.2]; decide)).mono ?_
      rintro e w3 ⟨rfl, h3, _⟩
      have H3 := Mm.hid h3
      clear h3 H2
      obtain ⟨F3, f3, _⟩ := H3.out.out
      have M3 := Mm.hid f3
      have LC : Hid (lockC 2 0 1 = 0) := by show _ = _; decide
      clear f3
      go_wp2_with fail
      refine (lock_any _ g 2 _ _ 0 1 _ M3.out LL2.out (by decide)).mono ?_
      rw [LC.out]
      rintro e w4 (⟨h0, _, _⟩ | ⟨_, rfl, hw4⟩)
      · exact absurd rfl h0
      generalize hS0 : (((Cm.new 2).store (0 : Nat) bg).store (1 : Nat) q) = S0 at *
      have H4 : Hid (HasG w.heap.size g w (fun k => False ∨ k = w3.heap.size) S0 w4) := by show HasG _ _ _ _ _ _; rw [hw4]; exact H3.out.grow _
      have L4 : Hid (Blk w4 w3.heap.size 146 #[.pointer (some ⟨g, 0, none⟩), .int .i64 0, .int .i64 1]) := by show Blk _ _ _ _; rw [hw4]; exact Blk.new w3 _ 146
      have hl0 : w.heap.size ≤ w3.heap.size := H3.out.le
      clear hw4 H3 M3 hS0 s1 s0 l1 x0 X1 BT LL2 LC
      generalize w3.heap.size = lb at *
      go_wp2_with fail
      refine (enter_any lb _).mono ?_
      rintro e w5 ⟨rfl, hw5⟩
      have H5 : Hid (HasG w.heap.size g w (fun k => (False ∨ k = lb) ∨ k = w4.heap.size) S0 w5) := by show HasG _ _ _ _ _ _; rw [hw5]; exact H4.out.grow _
      have W5 : Hid (Blk w5 w4.heap.size 150 #[.pointer (some ⟨lb, 0, none⟩), .int .i64 0, .bool false, .bool false]) := by show Blk _ _ _ _; rw [hw5]; exact Blk.new w4 _ 150
      have L5 : Hid (Blk w5 lb 146 #[.pointer (some ⟨g, 0, none⟩), .int .i64 0, .int .i64 1]) := by show Blk _ _ _ _; rw [hw5]; exact L4.out.keep (Below.heap_alloc w4 _ _ L4.out.lt)
      have hlw : lb < w4.heap.size := L4.out.lt
      have hw0 : w.heap.size ≤ w4.heap.size := H4.out.le
      clear hw5 H4 L4
      generalize w4.heap.size = wb at *
      go_wp2_with fail
      refine (H5.out.trace T2.out (by decide)).mono ?_
      rintro e w6 ⟨A6, c6, rfl, hc6, H6⟩
      have ST : Hid (∃ S, LS bg q 0 S ⟨0, false, false⟩ 0 q 0 ∧ HasG w.heap.size g w (fun k => (False ∨ k = lb) ∨ k = wb) S w6 ∧ Blk w6 wb 150 #[.pointer (some ⟨lb, 0, none⟩), .int .i64 0, .bool false, .bool false] ∧ Blk w6 lb 146 #[.pointer (some ⟨g, 0, none⟩), .int .i64 0, .int .i64 1]) := ⟨S0, LS0.out, H6.out.1, W5.out.keep (H6.out.2 _ (.inr rfl)), L5.out.keep (H6.out.2 _ (.inl (.inr rfl)))⟩
      clear H5 W5 L5 H6 LS0 T2
      go_wp2_with fail
      go_loopw [12, 13, 14, 15, 16, 17, 18, 19, 20] (fun s hd lf i _ _ _ _ _ wr => ∃ (k steps l : Nat) (v : Int) (W : Wt), k ≤ N ∧ steps ≤ k ∧ l ≤ k ∧ i = .int .i64 (k : Nat) ∧ s = .int .i64 (steps : Nat) ∧ hd = .bool W.holds ∧ lf = .int .i64 (l : Nat) ∧ Hid (∃ S, LS bg q k S W steps v l ∧ HasG w.heap.size g w (fun k => (False ∨ k = lb) ∨ k = wb) S wr ∧ Blk wr wb 150 #[.pointer (some ⟨lb, 0, none⟩), .int .i64 W.num, .bool W.drawn, .bool W.holds] ∧ Blk wr lb 146 #[.pointer (some ⟨g, 0, none⟩), .int .i64 0, .int .i64 1])) (fun _ _ _ i _ _ _ _ _ _ => N - (intOf i).toNat)
      case atStart => exact ⟨0, 0, 0, q, ⟨0, false, false⟩, Nat.zero_le _, Nat.le_refl _, Nat.le_refl _, rfl, rfl, rfl, rfl, ST.out⟩
      case round =>
        obtain ⟨k, steps, l, v, W, hk, hsk, hlk, rfl, rfl, rfl, rfl, HK⟩ := hrel
        clear ST
        obtain ⟨S, h1, h2, h3, h4⟩ := HK.out
        have LSK := Mm.hid h1
        have H := Mm.hid h2
        have WB := Mm.hid h3
        have LB := Mm.hid h4
        have BW := Mm.hid h2.to
        clear h1 h2 h3 h4 HK
        by_cases hlt : k < N
        · obtain ⟨T, hT⟩ : ∃ T, S.tr.length = T := ⟨_, rfl⟩
          have TT := Mm.hid hT
          have hT1 : T ≤ 2 + k := by rw [← hT]; exact LSK.out.tr
          clear hT
          obtain ⟨x, hx⟩ : ∃ x, xs[k]? = some x := ⟨_, List.getElem?_eq_getElem (by rw [LN.out]; exact hlt)⟩
          have XX := Mm.hid hx
          clear hx
          go_wp2_with fail
          refine (H.out.trace TT.out (by omega)).mono ?_
          rintro e w7 ⟨A7, c7, rfl, hc7, H7⟩
          have WB7 := Mm.hid (WB.out.keep (H7.out.2 _ (.inr rfl)))
          have LB7 := Mm.hid (LB.out.keep (H7.out.2 _ (.inl (.inr rfl))))
          obtain ⟨ad, rfl, _, f1⟩ := (R.out.below H7.out.1.to).cell (iL_get XX.out)
          clear WB LB H BW
          go_wp2_with fail
          refine (pick17_any x 4 _ (by decide) (by decide)).mono ?_
          rintro e w7' ⟨o, ho, rfl, rfl, -⟩
          clear f1
          obtain rfl | rfl | rfl | rfl : o = 0 ∨ o = 1 ∨ o = 2 ∨ o = 3 := by omega
          · obtain ⟨e1, e2, e3, e4, e5⟩ := LSK.out.step HG.out.1
            generalize hst : stepW 0 1 W S = st at *
            obtain ⟨r, W', S'⟩ := st
            simp only at e1 e2 e3 e4 e5
            have E1 := Mm.hid e1
            have ST := Mm.hid hst
            have T8 : Hid (S'.tr.length = T + (if W.holds then 0 else 1)) := by show _ = _; rw [e2, TT.out]
            have E3 := Mm.hid e3
            have E4 := Mm.hid e4
            have E5 := Mm.hid e5
            clear e1 e2 e3 e4 e5 hst
            go_wp2_with fail
            refine (step_any H7.out.1 0 1 wb lb W (.inr rfl) hw0 (.inl (.inr rfl)) (by omega) WB7.out LB7.out (by have := LSK.out.bad; omega) (by rw [TT.out]; omega)).mono ?_
            rw [ST.out]
            rintro e w8 ⟨rfl, h8, b8, k8⟩
            have H8 := Mm.hid h8
            have WB8 := Mm.hid b8
            have LB8 := Mm.hid (LB7.out.keep (k8 lb (.inl (.inr rfl)) (by omega)))
            clear h8 b8 k8 H7 WB7 LB7
            obtain ⟨hd, hhd⟩ : ∃ hd, W.holds = hd := ⟨_, rfl⟩
            rw [hhd] at T8 E3 ⊢
            clear hhd
            cases hd
            · have T9 : Hid (S'.tr.length = T + 1) := T8.out
              clear T8 E3
              go_wp2_with fail
              refine (H8.out.trace T9.out (by omega)).mono ?_
              rintro e w9 ⟨A9, c9, rfl, hc9, H9⟩
              have FIN : Hid (∃ S, LS bg q (k + 1) S W' (steps + 1) v l ∧ HasG w.heap.size g w (fun k => (False ∨ k = lb) ∨ k = wb) S w9 ∧ Blk w9 wb 150 #[.pointer (some ⟨lb, 0, none⟩), .int .i64 W'.num, .bool W'.drawn, .bool W'.holds] ∧ Blk w9 lb 146 #[.pointer (some ⟨g, 0, none⟩), .int .i64 0, .int .i64 1]) := ⟨S', E1.out, H9.out.1, WB8.out.keep (H9.out.2 _ (.inr rfl)), LB8.out.keep (H9.out.2 _ (.inl (.inr rfl)))⟩
              clear H9 WB8 LB8 H8 E1
              rcases Nat.eq_zero_or_pos steps with hz | hz
              · subst hz
                have hr : r = false := E4.out rfl
                subst hr
                go_wp2
                go_roundw
                case rel => exact ⟨k + 1, 0 + 1, l, v, W', by omega, by omega, by omega, by go_num, by go_num, by rw [E5.out], rfl, FIN.out⟩
                case measure => simp [intOf] <;> omega
              · have hzb : ((steps : Int) == 0) = false := beq_eq_false_iff_ne.2 (by omega)
                go_wp2
                go_roundw
                case rel => exact ⟨k + 1, steps + 1, l, v, W', by omega, by omega, by omega, by go_num, by go_num, by rw [E5.out], rfl, FIN.out⟩
                case measure => simp [intOf] <;> omega
            · have T9 : Hid (S'.tr.length = T) := T8.out
              have hr : r = true := E3.out rfl
              subst hr
              have hz : 0 < steps := by
                rcases Nat.eq_zero_or_pos steps with h0 | h0
                · have := E4.out h0; cases this
                · exact h0
              have hzb : ((steps : Int) == 0) = false := beq_eq_false_iff_ne.2 (by omega)
              clear T8 E3 E4
              go_wp2_with fail
              refine (H8.out.trace T9.out (by omega)).mono ?_
              rintro e w9 ⟨A9, c9, rfl, hc9, H9⟩
              have FIN : Hid (∃ S, LS bg q (k + 1) S W' (steps + 1) v l ∧ HasG w.heap.size g w (fun k => (False ∨ k = lb) ∨ k = wb) S w9 ∧ Blk w9 wb 150 #[.pointer (some ⟨lb, 0, none⟩), .int .i64 W'.num, .bool W'.drawn, .bool W'.holds] ∧ Blk w9 lb 146 #[.pointer (some ⟨g, 0, none⟩), .int .i64 0, .int .i64 1]) := ⟨S', E1.out, H9.out.1, WB8.out.keep (H9.out.2 _ (.inr rfl)), LB8.out.keep (H9.out.2 _ (.inl (.inr rfl)))⟩
              clear H9 WB8 LB8 H8 E1
              go_wp2
              go_roundw
              case rel => exact ⟨k + 1, steps + 1, l, v, W', by omega, by omega, by omega, by go_num, by go_num, by rw [E5.out], rfl, FIN.out⟩
              case measure => simp [intOf] <;> omega
          · go_wp2_with fail
            refine (ready_any H7.out.1 0 1 v LSK.out.w1 wb lb W (.inr rfl) WB7.out LB7.out).mono ?_
            rintro e w8 ⟨rfl, h8, k8⟩
            have H8 := Mm.hid h8
            have WB8 := Mm.hid (WB7.out.keep (k8 _ (.inr rfl)))
            have LB8 := Mm.hid (LB7.out.keep (k8 _ (.inl (.inr rfl))))
            clear h8 k8 H7 WB7 LB7
            go_wp2_with fail
            refine (H8.out.trace TT.out (by omega)).mono ?_
            rintro e w9 ⟨A9, c9, rfl, hc9, H9⟩
            have FIN : Hid (∃ S, LS bg q (k + 1) S W steps v l ∧ HasG w.heap.size g w (fun k => (False ∨ k = lb) ∨ k = wb) S w9 ∧ Blk w9 wb 150 #[.pointer (some ⟨lb, 0, none⟩), .int .i64 W.num, .bool W.drawn, .bool W.holds] ∧ Blk w9 lb 146 #[.pointer (some ⟨g, 0, none⟩), .int .i64 0, .int .i64 1]) := ⟨S, LSK.out.keep, H9.out.1, WB8.out.keep (H9.out.2 _ (.inr rfl)), LB8.out.keep (H9.out.2 _ (.inl (.inr rfl)))⟩
            clear H9 WB8 LB8 H8
            go_wp2
            go_roundw
            case rel => exact ⟨k + 1, steps, l, v, W, by omega, by omega, by omega, by go_num, rfl, rfl, rfl, FIN.out⟩
            case measure => simp [intOf] <;> omega
          · obtain ⟨t, ht⟩ : ∃ t, (if W.drawn then W.num else -1) = t := ⟨_, rfl⟩
            have TK : Hid ((steps = 0 → t = -1) ∧ (0 < steps → t = bg)) := by
              refine ⟨fun h0 => ?_, fun h0 => ?_⟩
              · rw [← ht, LSK.out.new h0]; rfl
              · obtain ⟨q1, q2⟩ := LSK.out.old h0
                rw [← ht, q1, q2]; rfl
            have HT := Mm.hid ht
            clear ht
            go_wp2_with fail
            refine (ticket_any wb lb W t HT.out _ WB7.out).mono ?_
            rintro e w8 ⟨rfl, rfl⟩
            go_wp2_with fail
            refine (H7.out.1.trace TT.out (by omega)).mono ?_
            rintro e w9 ⟨A9, c9, rfl, hc9, H9⟩
            have FIN : Hid (∃ S, LS bg q (k + 1) S W steps v l ∧ HasG w.heap.size g w (fun k => (False ∨ k = lb) ∨ k = wb) S w9 ∧ Blk w9 wb 150 #[.pointer (some ⟨lb, 0, none⟩), .int .i64 W.num, .bool W.drawn, .bool W.holds] ∧ Blk w9 lb 146 #[.pointer (some ⟨g, 0, none⟩), .int .i64 0, .int .i64 1]) := ⟨S, LSK.out.keep, H9.out.1, WB7.out.keep (H9.out.2 _ (.inr rfl)), LB7.out.keep (H9.out.2 _ (.inl (.inr rfl)))⟩
            clear H9 WB7 LB7 H7
            rcases Nat.eq_zero_or_pos steps with hz | hz
            · have h1 := TK.out.1 hz
              subst hz
              subst h1
              go_wp2
              go_roundw
              case rel => exact ⟨k + 1, 0, l, v, W, by omega, by omega, by omega, by go_num, rfl, rfl, rfl, FIN.out⟩
              case measure => simp [intOf] <;> omega
            · have h1 := TK.out.2 hz
              have hzb : ((steps : Int) == 0) = false := beq_eq_false_iff_ne.2 (by omega)
              have hzp : decide ((0 : Int) < (steps : Int)) = true := decide_eq_true (by omega)
              subst h1
              go_wp2
              go_roundw
              case rel => exact ⟨k + 1, steps, l, v, W, by omega, by omega, by omega, by go_num, rfl, rfl, rfl, FIN.out⟩
              case measure => simp [intOf] <;> omega
          · have VQ : Hid (wrap64 (wrap64 (bg - (p : Int)) + (l : Int)) = v) := by show _ = _; rw [HQ.out, LSK.out.val]
            go_wp2_with fail
            refine (pick17_any others 3 _ (by decide) (by decide)).mono ?_
            rintro e w8 ⟨p', hp', rfl, rfl, PX'⟩
            have hpp : p' = p := by have := PX.out; have := PX'.out; omega
            subst hpp
            by_cases hv : v = poison
            · have b1 : (wrap64 (wrap64 (bg - (p' : Int)) + (l : Int)) == -4611686018427387904) = true := by rw [VQ.out]; exact beq_iff_eq.2 hv
              clear hv
              have FIN : Hid (∃ S, LS bg q (k + 1) S W steps v l ∧ HasG w.heap.size g w (fun k => (False ∨ k = lb) ∨ k = wb) S w7 ∧ Blk w7 wb 150 #[.pointer (some ⟨lb, 0, none⟩), .int .i64 W.num, .bool W.drawn, .bool W.holds] ∧ Blk w7 lb 146 #[.pointer (some ⟨g, 0, none⟩), .int .i64 0, .int .i64 1]) := ⟨S, LSK.out.keep, H7.out.1, WB7.out, LB7.out⟩
              go_wp2
              go_roundw
              case rel => exact ⟨k + 1, steps, l, v, W, by omega, by omega, by omega, by go_num, rfl, rfl, rfl, FIN.out⟩
              case measure => simp [intOf] <;> omega
            · have b1 : (wrap64 (wrap64 (bg - (p' : Int)) + (l : Int)) == -4611686018427387904) = false := by rw [VQ.out]; exact beq_eq_false_iff_ne.2 hv
              have HV := Mm.hid hv
              clear hv
              go_wp2_with fail
              refine (pick17_any others 3 _ (by decide) (by decide)).mono ?_
              rintro e w8 ⟨p2, hp2, rfl, rfl, PX2⟩
              have hpp : p2 = p' := by have := PX'.out; have := PX2.out; omega
              subst hpp
              by_cases hv2 : wrap64 (v + 1) = poison
              · have b2 : (wrap64 (wrap64 (wrap64 (bg - (p2 : Int)) + (l : Int)) + 1) == -4611686018427387904) = true := by rw [VQ.out]; exact beq_iff_eq.2 hv2
                clear hv2
                have FIN : Hid (∃ S, LS bg q (k + 1) S W steps v l ∧ HasG w.heap.size g w (fun k => (False ∨ k = lb) ∨ k = wb) S w7 ∧ Blk w7 wb 150 #[.pointer (some ⟨lb, 0, none⟩), .int .i64 W.num, .bool W.drawn, .bool W.holds] ∧ Blk w7 lb 146 #[.pointer (some ⟨g, 0, none⟩), .int .i64 0, .int .i64 1]) := ⟨S, LSK.out.keep, H7.out.1, WB7.out, LB7.out⟩
                go_wp2
                go_roundw
                case rel => exact ⟨k + 1, steps, l, v, W, by omega, by omega, by omega, by go_num, rfl, rfl, rfl, FIN.out⟩
                case measure => simp [intOf] <;> omega
              · have b2 : (wrap64 (wrap64 (wrap64 (bg - (p2 : Int)) + (l : Int)) + 1) == -4611686018427387904) = false := by rw [VQ.out]; exact beq_eq_false_iff_ne.2 hv2
                obtain ⟨g1, g2, g3⟩ := LSK.out.leave HV.out
                have G1 := Mm.hid g1
                have G2 := Mm.hid g2
                have T9 := Mm.hid (g3.trans (by rw [TT.out]) : (S.add 1 1).tr.length = T + 1)
                clear hv2 g1 g2 g3
                go_wp2_with fail
                refine (leave_any H7.out.1 0 1 lb LB7.out (by have := LSK.out.bad; omega) (by rw [TT.out]; omega)).mono ?_
                rintro e w8 ⟨rfl, h8, k8⟩
                rw [G2.out]
                have H8 := Mm.hid h8
                have WB8 := Mm.hid (WB7.out.keep (k8 _ (.inr rfl)))
                have LB8 := Mm.hid (LB7.out.keep (k8 _ (.inl (.inr rfl))))
                clear h8 k8 H7 WB7 LB7
                go_wp2_with fail
                refine (H8.out.trace T9.out (by omega)).mono ?_
                rintro e w9 ⟨A9, c9, rfl, hc9, H9⟩
                have FIN : Hid (∃ S, LS bg q (k + 1) S W steps (wrap64 (v + 1)) (l + 1) ∧ HasG w.heap.size g w (fun k => (False ∨ k = lb) ∨ k = wb) S w9 ∧ Blk w9 wb 150 #[.pointer (some ⟨lb, 0, none⟩), .int .i64 W.num, .bool W.drawn, .bool W.holds] ∧ Blk w9 lb 146 #[.pointer (some ⟨g, 0, none⟩), .int .i64 0, .int .i64 1]) := ⟨_, G1.out, H9.out.1, WB8.out.keep (H9.out.2 _ (.inr rfl)), LB8.out.keep (H9.out.2 _ (.inl (.inr rfl)))⟩
                clear H9 WB8 LB8 H8
                go_wp2
                go_roundw
                case rel => exact ⟨k + 1, steps, l + 1, _, W, by omega, by omega, by omega, by go_num, rfl, rfl, by go_num, FIN.out⟩
                case measure => simp [intOf] <;> omega
        · go_wp2
          go_ret
          exact ⟨rfl, BW.out⟩
end Go.Proofs.Ytkbobgblohohcaa

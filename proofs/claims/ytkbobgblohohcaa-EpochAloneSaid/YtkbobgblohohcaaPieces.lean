/- Walk: the law CellsPieces. -/
import Derived.Test.YtkbobgblohohcaaHas
import Derived.Deep.CutRange
namespace Go.Proofs.Ytkbobgblohohcaa
open Go.RowKit Go.Mm Go.Cells
def winB (n : Nat) (a m : Int) : Bool := decide (0 ≤ a) && (decide (0 ≤ m) && decide (a ≤ n - m))
theorem winB_of {S : Cm} {n : Nat} (h : S.ws.length = n) (a m : Int) : S.within a m = winB n a m := by unfold Cm.within winB; rw [h]
theorem winB_iff (n : Nat) (a m : Int) : winB n a m = true ↔ 0 ≤ a ∧ 0 ≤ m ∧ a ≤ n - m := by unfold winB; simp
theorem words_all {S : Cm} {n : Nat} (h : S.ws.length = n) : S.words 0 n = S.ws ∧ S.code 0 n = 0 := by
  have hw : S.within 0 n = true := (within_iff S 0 n).2 ⟨by omega, by omega, by omega⟩
  refine ⟨?_, if_pos hw⟩
  unfold Cm.words
  rw [if_pos hw]
  simp [← h]
theorem words_in {S : Cm} {n a m : Nat} (h : S.ws.length = n) (hw : a + m ≤ n) : S.words a m = (S.ws.drop a).take m ∧ S.code a m = 0 ∧ ∀ x, S.fill a m x = ⟨fillL S.ws a m x, S.tr, S.bad⟩ := by
  have hw : S.within a m = true := (within_iff S a m).2 ⟨by omega, by omega, by omega⟩
  refine ⟨?_, if_pos hw, fun x => ?_⟩
  · unfold Cm.words; rw [if_pos hw]; simp
  · unfold Cm.fill; rw [if_pos hw]; simp
theorem words_out {S : Cm} {a m : Int} (hw : S.within a m = false) : S.words a m = [] ∧ S.code a m = 140 ∧ ∀ x, S.fill a m x = S := by
  have hw : ¬ S.within a m = true := by rw [hw]; decide
  exact ⟨if_neg hw, if_neg hw, fun x => if_neg hw⟩
theorem wf64 {x : Int} (h : (Lit.int .i64 x).wf = true) : -9223372036854775808 ≤ x ∧ x ≤ 9223372036854775807 := by
  simpa [Lit.wf, IntKind.min, IntKind.max, IntKind.signed, IntKind.bits] using h
set_option maxRecDepth 100000 in
set_option maxHeartbeats 1000000 in
theorem law_pieces (x a m : Int) (w : World) (_ : (Lit.int .i64 x).wf = true) (ha : (Lit.int .i64 a).wf = true) (hm : (Lit.int .i64 m).wf = true) :
    Calls Try.prog 6 #[.int .i64 x, .int .i64 a, .int .i64 m] w fun e w' => e = .returned (.bool true) ∧ Below w.heap.size w w' := by
  obtain ⟨ha1, ha2⟩ := wf64 ha
  obtain ⟨hm1, hm2⟩ := wf64 hm
  clear ha hm
  go_enter Try.func6, Try.ntmps6
  go_wp2_with fail
  refine (made_any x _).mono ?_
  rintro e w1 ⟨g, n, F, hn1, hn2, rfl, M⟩
  have H1 : Hid (∃ S, Has w.heap.size g w (fun _ => True) S w1 ∧ Fill n 0 S) := ⟨_, Has.made M, Fill.made n⟩
  clear M F
  go_wp2_with fail
  go_loopw [9] (fun i wr => ∃ k : Nat, k ≤ n ∧ i = .int .i64 (k : Nat) ∧ Hid (∃ S, Has w.heap.size g w (fun _ => True) S wr ∧ Fill n k S)) (fun i _ => n - (intOf i).toNat)
  case atStart => exact ⟨0, Nat.zero_le _, rfl, H1.out⟩
  case round =>
    obtain ⟨k, hk, rfl, HK⟩ := hrel
    clear H1
    obtain ⟨S, h1, h2⟩ := HK.out
    have H := Mm.hid h1
    by_cases hlt : k < n
    · have st := h2.step hlt
      have ST := Mm.hid st
      have BD : Hid (S.bad = 0 ∧ S.tr.length = 3 + k) := ⟨h2.bad, h2.tr⟩
      clear h1 h2 st HK
      go_wp2_with fail
      refine (H.out.store k (100 + (k : Int)) (by rw [BD.out.1]; omega) (by rw [BD.out.2]; omega)).mono ?_
      rintro e w2 ⟨rfl, h3⟩
      have H3 : Hid (∃ S, Has w.heap.size g w (fun _ => True) S w2 ∧ Fill n (k + 1) S) := ⟨_, h3, ST.out.2⟩
      clear h3
      go_wp2
      go_roundw
      case rel => exact ⟨k + 1, by omega, by go_num, H3.out⟩
      case measure => simp [intOf] <;> omega
    · have hkn : k = n := by omega
      subst hkn
      have FL := Mm.hid h2
      clear h1 h2 HK
      go_wp2_with fail
      refine (H.out.trace FL.out.tr (by omega)).mono ?_
      rintro e w2 ⟨A0, c0, rfl, hc0, H2⟩
      obtain ⟨b, hb⟩ : ∃ b, winB k a m = b := ⟨_, rfl⟩
      have HB := Mm.hid hb
      clear hb
      go_upto_region 9 with (fail)
      go_cut [11] from 42 to 59 (fun v wc => v = .bool b ∧ w2 = wc)
      case first =>
        have W := Mm.hid (winB_iff k a m)
        by_cases q1 : a < 0
        · have hf : b = false := by cases b; rfl; have := W.out.1 HB.out; omega
          subst hf
          go_wp2_with fail
          go_meet
          exact ⟨rfl, rfl⟩
        by_cases q2 : m < 0
        · have hf : b = false := by cases b; rfl; have := W.out.1 HB.out; omega
          subst hf
          go_wp2_with fail
          go_meet
          exact ⟨rfl, rfl⟩
        by_cases q3 : m ≤ (k : Int)
        · by_cases q4 : a ≤ (k : Int) - m
          · have hf : b = true := by rw [← HB.out]; exact W.out.2 (by omega)
            subst hf
            go_wp2_with fail
            go_meet
            exact ⟨rfl, rfl⟩
          · have hf : b = false := by cases b; rfl; have := W.out.1 HB.out; omega
            subst hf
            go_wp2_with fail
            go_meet
            exact ⟨rfl, rfl⟩
        · have hf : b = false := by cases b; rfl; have := W.out.1 HB.out; omega
          subst hf
          go_wp2_with fail
          go_meet
          exact ⟨rfl, rfl⟩
      case rest =>
        obtain ⟨rfl, rfl⟩ := hcut
        cases b
        · have o := words_out ((winB_of FL.out.len a m).trans HB.out)
          have OW := Mm.hid o.1
          have OC := Mm.hid o.2.1
          have OF := Mm.hid o.2.2
          have WA := Mm.hid (words_all FL.out.len)
          clear o
          go_wp2_with fail
          refine (H2.out.words a m hm2).mono ?_
          rintro e w3 ⟨A1, m1, c1, rfl, hc1, H3⟩
          rw [OC.out]
          rw [OW.out] at H3
          obtain rfl : m1 = 0 := H3.out.1.symm
          go_wp2_with fail
          refine (H3.out.2.clear a m hm2).mono ?_
          rintro e w4 ⟨rfl, h4⟩
          rw [OC.out]
          rw [OF.out] at h4
          have H4 := Mm.hid h4
          clear h4 H3
          go_wp2_with fail
          refine (H4.out.words 0 k (by omega)).mono ?_
          rintro e w5 ⟨A2, m2, c2, rfl, hc2, H5⟩
          rw [WA.out.2]
          rw [WA.out.1] at H5
          obtain rfl : m2 = k := by rw [← H5.out.1]; exact FL.out.len
          go_wp2_with fail
          refine (H5.out.2.poison a m hm2).mono ?_
          rintro e w6 ⟨rfl, h6⟩
          rw [OC.out]
          rw [OF.out] at h6
          have H6 := Mm.hid h6
          clear h6 H5 H4
          go_wp2_with fail
          refine (H6.out.words 0 m2 (by omega)).mono ?_
          rintro e w7 ⟨A3, m3, c3, rfl, hc3, H7⟩
          rw [WA.out.2]
          rw [WA.out.1] at H7
          obtain rfl : m3 = m2 := by rw [← H7.out.1]; exact FL.out.len
          go_wp2_with fail
          refine (H7.out.2.trace FL.out.tr (by omega)).mono ?_
          rintro e w8 ⟨A4, c4, rfl, hc4, H8⟩
          have BD : Hid (S.bad = 0) := FL.out.bad
          clear H7 H6
          go_wp2_with fail
          refine (H8.out.bad BD.out).mono ?_
          rintro e w9 ⟨rfl, rfl⟩
          have KP := Mm.hid H8.out.keeps
          have R2 := Mm.hid KP.out.1.1.2
          have R3 := Mm.hid KP.out.1.2
          have BW := Mm.hid H8.out.below
          clear KP H8 H2 H
          go_wp2_with fail
          go_loopw [20, 21] (fun i _ wr => ∃ k : Nat, k ≤ m3 ∧ i = .int .i64 (k : Nat) ∧ Hid (Rd wr A2 m3 1 (iL S.ws) ∧ Rd wr A3 m3 1 (iL S.ws) ∧ Below w.heap.size w wr)) (fun i _ _ => m3 - (intOf i).toNat)
          case atStart => exact ⟨0, Nat.zero_le _, rfl, R2.out, R3.out, BW.out⟩
          case round =>
            obtain ⟨k, hk, rfl, HK⟩ := hrel
            clear R2 R3 BW
            have FIN := Mm.hid HK.out
            by_cases hlt : k < m3
            · obtain ⟨ad2, rfl, _, f2⟩ := HK.out.1.cell (iL_get (FL.out.lo k hlt))
              obtain ⟨ad3, rfl, _, f3⟩ := HK.out.2.1.cell (iL_get (FL.out.lo k hlt))
              clear HK
              go_wp2
              go_roundw
              case rel => exact ⟨k + 1, by omega, by go_num, FIN.out⟩
              case measure => simp [intOf] <;> omega
            · clear HK
              go_wp2
              go_ret
              exact ⟨rfl, FIN.out.2.2⟩
        · obtain ⟨w1', w2', w3'⟩ := (winB_iff k a m).1 HB.out
          obtain ⟨a, rfl⟩ := Int.eq_ofNat_of_zero_le w1'
          obtain ⟨m, rfl⟩ := Int.eq_ofNat_of_zero_le w2'
          have ham : a + m ≤ k := by omega
          clear w1' w2' w3' HB
          obtain ⟨o1, o2, o3⟩ := words_in FL.out.len ham
          have L1 : Hid ((fillL S.ws a m 0).length = k) := by show _ = _; rw [fillL_len (by rw [FL.out.len]; exact ham)]; exact FL.out.len
          have L2 : Hid ((fillL (fillL S.ws a m 0) a m poison).length = k) := by show _ = _; rw [fillL_len (by rw [L1.out]; exact ham)]; exact L1.out
          obtain ⟨p1, p2, p3⟩ := words_in (S := ⟨fillL S.ws a m 0, S.tr, S.bad⟩) L1.out ham
          have OW := Mm.hid o1
          have OC := Mm.hid o2
          have OF := Mm.hid (o3 0)
          have PC := Mm.hid p2
          have PF := Mm.hid (p3 poison)
          have WA := Mm.hid (words_all (S := ⟨fillL S.ws a m 0, S.tr, S.bad⟩) L1.out)
          have WB := Mm.hid (words_all (S := ⟨fillL (fillL S.ws a m 0) a m poison, S.tr, S.bad⟩) L2.out)
          have LW : Hid (((S.ws.drop a).take m).length = m) := by show _ = _; simp [FL.out.len]; omega
          clear o1 o2 o3 p1 p2 p3
          go_wp2_with fail
          refine (H2.out.words a m hm2).mono ?_
          rintro e w3 ⟨A1, m1, c1, rfl, hc1, H3⟩
          rw [OC.out]
          rw [OW.out] at H3
          obtain rfl : m1 = m := by rw [← H3.out.1]; exact LW.out
          go_wp2_with fail
          refine (H3.out.2.clear a m1 hm2).mono ?_
          rintro e w4 ⟨rfl, h4⟩
          rw [OC.out]
          rw [OF.out] at h4
          have H4 := Mm.hid h4
          clear h4 H3
          go_wp2_with fail
          refine (H4.out.words 0 k (by omega)).mono ?_
          rintro e w5 ⟨A2, m2, c2, rfl, hc2, H5⟩
          rw [WA.out.2]
          rw [WA.out.1] at H5
          obtain rfl : m2 = k := by rw [← H5.out.1]; exact L1.out
          go_wp2_with fail
          refine (H5.out.2.poison a m1 hm2).mono ?_
          rintro e w6 ⟨rfl, h6⟩
          rw [PC.out]
          rw [PF.out] at h6
          have H6 := Mm.hid h6
          clear h6 H5 H4
          go_wp2_with fail
          refine (H6.out.words 0 m2 (by omega)).mono ?_
          rintro e w7 ⟨A3, m3, c3, rfl, hc3, H7⟩
          rw [WB.out.2]
          rw [WB.out.1] at H7
          obtain rfl : m3 = m2 := by rw [← H7.out.1]; exact L2.out
          go_wp2_with fail
          refine (H7.out.2.trace FL.out.tr (by omega)).mono ?_
          rintro e w8 ⟨A4, c4, rfl, hc4, H8⟩
          have BD : Hid (S.bad = 0) := FL.out.bad
          clear H7 H6
          go_wp2_with fail
          refine (H8.out.bad BD.out).mono ?_
          rintro e w9 ⟨rfl, rfl⟩
          have KP := Mm.hid H8.out.keeps
          have R1 := Mm.hid KP.out.1.1.1.2
          have R2 := Mm.hid KP.out.1.1.2
          have R3 := Mm.hid KP.out.1.2
          have BW := Mm.hid H8.out.below
          clear KP H8 H2 H
          go_wp2_with fail
          go_loopw [20, 21] (fun i _ wr => ∃ k : Nat, k ≤ m3 ∧ i = .int .i64 (k : Nat) ∧ Hid (Rd wr A1 m1 1 (iL ((S.ws.drop a).take m1)) ∧ Rd wr A2 m3 1 (iL (fillL S.ws a m1 0)) ∧ Rd wr A3 m3 1 (iL (fillL (fillL S.ws a m1 0) a m1 poison)) ∧ Below w.heap.size w wr)) (fun i _ _ => m3 - (intOf i).toNat)
          case atStart => exact ⟨0, Nat.zero_le _, rfl, R1.out, R2.out, R3.out, BW.out⟩
          case round =>
            obtain ⟨k, hk, rfl, HK⟩ := hrel
            clear R1 R2 R3 BW
            have FIN := Mm.hid HK.out
            by_cases hlt : k < m3
            · have V2 : Hid ((fillL S.ws a m1 0)[k]? = if a ≤ k ∧ k < a + m1 then some 0 else some (100 + (k : Int))) := by show _ = _; rw [fillL_get (by rw [FL.out.len]; exact ham), FL.out.lo k hlt]
              have V3 : Hid ((fillL (fillL S.ws a m1 0) a m1 poison)[k]? = if a ≤ k ∧ k < a + m1 then some poison else some (100 + (k : Int))) := by
                show _ = _
                rw [fillL_get (by rw [L1.out]; exact ham), V2.out]
                split <;> rfl
              by_cases q1 : a ≤ k
              · by_cases q2 : k < a + m1
                · have v2 := V2.out
                  have v3 := V3.out
                  rw [if_pos ⟨q1, q2⟩] at v2 v3
                  unfold poison at v3
                  have v1 : ((S.ws.drop a).take m1)[k - a]? = some (100 + (k : Int)) := by
                    rw [List.getElem?_take, if_pos (by omega), List.getElem?_drop, show a + (k - a) = k by omega]
                    exact FL.out.lo k hlt
                  obtain ⟨ad1, rfl, _, f1⟩ := HK.out.1.cell (iL_get v1)
                  obtain ⟨ad2, rfl, _, f2⟩ := HK.out.2.1.cell (iL_get v2)
                  obtain ⟨ad3, rfl, _, f3⟩ := HK.out.2.2.1.cell (iL_get v3)
                  have i0 : (0 : Int) ≤ (k : Int) - (a : Int) := by omega
                  have i1 : (k : Int) - (a : Int) < (m1 : Int) := by omega
                  clear HK v1 v2 v3 V2 V3
                  go_wp2
                  go_roundw
                  case rel => exact ⟨k + 1, by omega, by go_num, FIN.out⟩
                  case measure => simp [intOf] <;> omega
                · have v2 := V2.out
                  have v3 := V3.out
                  rw [if_neg (fun h => q2 h.2)] at v2 v3
                  obtain ⟨ad2, rfl, _, f2⟩ := HK.out.2.1.cell (iL_get v2)
                  obtain ⟨ad3, rfl, _, f3⟩ := HK.out.2.2.1.cell (iL_get v3)
                  clear HK v2 v3 V2 V3
                  go_wp2
                  go_roundw
                  case rel => exact ⟨k + 1, by omega, by go_num, FIN.out⟩
                  case measure => simp [intOf] <;> omega
              · have v2 := V2.out
                have v3 := V3.out
                rw [if_neg (fun h => q1 h.1)] at v2 v3
                obtain ⟨ad2, rfl, _, f2⟩ := HK.out.2.1.cell (iL_get v2)
                obtain ⟨ad3, rfl, _, f3⟩ := HK.out.2.2.1.cell (iL_get v3)
                clear HK v2 v3 V2 V3
                go_wp2
                go_roundw
                case rel => exact ⟨k + 1, by omega, by go_num, FIN.out⟩
                case measure => simp [intOf] <;> omega
            · clear HK
              go_wp2
              go_ret
              exact ⟨by simp, FIN.out.2.2.2⟩
end Go.Proofs.Ytkbobgblohohcaa

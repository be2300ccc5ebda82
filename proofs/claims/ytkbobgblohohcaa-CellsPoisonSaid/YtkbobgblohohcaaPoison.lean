/- Walk: the law CellsPoison. -/
import Derived.Test.YtkbobgblohohcaaPieces
import Derived.Test.YtkbobgblohohcaaStep
namespace Go.Proofs.Ytkbobgblohohcaa
open Go.RowKit Go.Mm Go.Cells
set_option maxRecDepth 100000 in
set_option maxHeartbeats 1000000 in
theorem law_poison (x a m : Int) (s : Stp) (w : World) (_ : (Lit.int .i64 x).wf = true) (_ : (Lit.int .i64 a).wf = true) (_ : (Lit.int .i64 m).wf = true) (_ : gX s) :
    Calls Try.prog 7 #[.int .i64 x, .int .i64 a, .int .i64 m, .agg (fX s).toArray] w fun e w' => e = .returned (.bool true) ∧ Below w.heap.size w w' := by
  obtain ⟨sd, sa, sb, sc, ⟨xk, xa, xv, xo, xg⟩⟩ := s
  show Calls Try.prog 7 #[.int .i64 x, .int .i64 a, .int .i64 m, .agg #[.int .i64 sd, .int .i64 sa, .int .i64 sb, .int .i64 sc, .int .i8 xk, .int .i64 xa, .int .i64 xv, .int .i64 xo, .bool xg]] w _
  have BX := Mm.hid (Blk.new w #[.int .i64 sd, .int .i64 sa, .int .i64 sb, .int .i64 sc, .int .i8 xk, .int .i64 xa, .int .i64 xv, .int .i64 xo, .bool xg] 49)
  have B0 := Mm.hid ((Below.refl w.heap.size w).alloc (Nat.le_refl _) (.cells #[.int .i64 sd, .int .i64 sa, .int .i64 sb, .int .i64 sc, .int .i8 xk, .int .i64 xa, .int .i64 xv, .int .i64 xo, .bool xg] 49))
  go_enter Try.func7, Try.ntmps7
  go_wp2_with fail
  refine (made_any x _).mono ?_
  rintro e w2 ⟨g, n, F, hn1, hn2, rfl, M⟩
  have hbx := BX.out.lt
  generalize (w.alloc (.cells #[.int .i64 sd, .int .i64 sa, .int .i64 sb, .int .i64 sc, .int .i8 xk, .int .i64 xa, .int .i64 xv, .int .i64 xo, .bool xg] 49)) = w1 at *
  have H1 : Hid (∃ S, Has w1.heap.size g w1 (fun w' => True ∧ Blk w' w.heap.size 49 #[.int .i64 sd, .int .i64 sa, .int .i64 sb, .int .i64 sc, .int .i8 xk, .int .i64 xa, .int .i64 xv, .int .i64 xo, .bool xg]) S w2 ∧ Fill n 0 S) := ⟨_, (Has.made M).blk (BX.out.keep (M.out.2.2.block _ hbx)) hbx, Fill.made n⟩
  clear M F BX
  go_wp2_with fail
  go_loopw [11] (fun i wr => ∃ k : Nat, k ≤ n ∧ i = .int .i64 (k : Nat) ∧ Hid (∃ S, Has w1.heap.size g w1 (fun w' => True ∧ Blk w' w.heap.size 49 #[.int .i64 sd, .int .i64 sa, .int .i64 sb, .int .i64 sc, .int .i8 xk, .int .i64 xa, .int .i64 xv, .int .i64 xo, .bool xg]) S wr ∧ Fill n k S)) (fun i _ => n - (intOf i).toNat)
  case atStart => exact ⟨0, Nat.zero_le _, rfl, H1.out⟩
  case round =>
    obtain ⟨k, hk, rfl, HK⟩ := hrel
    clear H1
    obtain ⟨S, h1, h2⟩ := HK.out
    have H := Mm.hid h1
    by_cases hlt : k < n
    · have st := h2.step hlt
      have ST := Mm.hid st
      have BD : Hid (S.bad = 0 ∧ S.tr.length = 3 + k) := ⟨h2.bad, h2.tr⟩
      clear h1 h2 st HK
      go_wp2_with fail
      refine (H.out.store k (100 + (k : Int)) (by rw [BD.out.1]; omega) (by rw [BD.out.2]; omega)).mono ?_
      rintro e w2 ⟨rfl, h3⟩
      have H3 : Hid (∃ S, Has w1.heap.size g w1 (fun w' => True ∧ Blk w' w.heap.size 49 #[.int .i64 sd, .int .i64 sa, .int .i64 sb, .int .i64 sc, .int .i8 xk, .int .i64 xa, .int .i64 xv, .int .i64 xo, .bool xg]) S w2 ∧ Fill n (k + 1) S) := ⟨_, h3, ST.out.2⟩
      clear h3
      go_wp2
      go_roundw
      case rel => exact ⟨k + 1, by omega, by go_num, H3.out⟩
      case measure => simp [intOf] <;> omega
    · have hkn : k = n := by omega
      subst hkn
      have FL := Mm.hid h2
      clear h1 h2 HK
      go_wp2_with fail
      refine (pick_any a k _ hn1 (by omega)).mono ?_
      rintro e w3 ⟨p, hp, rfl, rfl, _⟩
      have hkp : ((k : Int) - (p : Int)) = ((k - p : Nat) : Int) := by omega
      have HKP := Mm.hid hkp
      clear hkp
      go_wp2_with fail
      rw [HKP.out]
      refine (pick_any m (k - p) _ (by omega) (by omega)).mono ?_
      rintro e w3 ⟨q, hq, rfl, rfl, _⟩
      have hq1 : ((1 : Int) + (q : Int)) = ((1 + q : Nat) : Int) := by omega
      have HQ1 := Mm.hid hq1
      clear hq1
      have hpq : p + (1 + q) ≤ k := by omega
      obtain ⟨_, o2, o3⟩ := words_in FL.out.len hpq
      have OC := Mm.hid o2
      have OF := Mm.hid (o3 poison)
      clear o2 o3
      go_wp2_with fail
      rw [HQ1.out]
      generalize hq2 : 1 + q = r at *
      have hr1 : 1 ≤ r := by omega
      clear hq2 HQ1
      refine (H.out.poison p r (by omega)).mono ?_
      rintro e w3 ⟨rfl, h3⟩
      rw [OC.out]
      rw [OF.out] at h3
      have H3 := Mm.hid h3
      clear h3
      have c1 : w3.cell? ⟨w.heap.size, 1, none⟩ = some (.int .i64 sa) := H3.out.keeps.2.cell 1
      have c2 : w3.frozen? ⟨w.heap.size, 1, none⟩ = false := H3.out.keeps.2.free 1
      go_wp2_with fail
      refine (pick_any sa r _ hr1 (by omega)).mono ?_
      rintro e w4 ⟨t, ht, rfl, rfl, _⟩
      have hpt : ((p : Int) + (t : Int)) = ((p + t : Nat) : Int) := by omega
      have HPT := Mm.hid hpt
      clear hpt
      have hI : p + t < k := by omega
      have hIp : p ≤ p + t := by omega
      have hIr : p + t < p + r := by omega
      have BK := Mm.hid H3.out.keeps.2
      have BLW := Mm.hid H3.out.below
      have hk1 : w1.heap.size ≤ w3.heap.size := H3.out.below.size
      go_wp2_with fail
      clear c1 c2
      rw [HPT.out]
      generalize p + t = i at *
      clear HPT ht
      have WL : Hid ((fillL S.ws p r poison)[i]? = some poison) := by show _ = _; rw [fillL_get (by rw [FL.out.len]; exact hpq), if_pos ⟨hIp, hIr⟩]
      have SP4 : Hid (Sp (fillL S.ws p r poison) (3 + k) 0 ⟨fillL S.ws p r poison, S.tr, S.bad⟩) := ⟨rfl, FL.out.tr, FL.out.bad⟩
      have hS := Fr.setCell w3 ⟨w.heap.size, 1, none⟩ (.int .i64 (i : Int))
      have h4 := (H3.out.anew hS (fun k (e : k = w.heap.size) => e ▸ hbx)).blk (BK.out.set 1 (.int .i64 (i : Int))) hbx
      have B4 := Mm.hid ((B0.out.trans (BLW.out.mono (Nat.le_of_lt hbx))).setCell (p := ⟨w.heap.size, 1, none⟩) (Nat.le_refl _) (.int .i64 (i : Int)))
      have H4 := Mm.hid h4
      clear hS h4 BK BLW H3
      generalize w3.setCell ⟨w.heap.size, 1, none⟩ (.int .i64 (i : Int)) = w4 at *
      refine (H4.out.bad SP4.out.2.2).mono ?_
      rintro e w4' ⟨rfl, rfl⟩
      have c1 : w4.cell? ⟨w.heap.size, 1, none⟩ = some (.int .i64 (i : Int)) := H4.out.keeps.2.cell 1
      have c2 : w4.cell? ⟨w.heap.size, 2, none⟩ = some (.int .i64 sb) := H4.out.keeps.2.cell 2
      have c3 : w4.cell? ⟨w.heap.size, 3, none⟩ = some (.int .i64 sc) := H4.out.keeps.2.cell 3
      have Q5 := Mm.hid (bad_load SP4.out WL.out)
      have SP5 := Mm.hid Q5.out.2
      have U5 : Hid (_ ∧ _) := ⟨SP4.out.2.2, SP4.out.2.1⟩
      go_wp2_with fail
      refine (H4.out.load i (by rw [U5.out.1]; omega) (by rw [U5.out.2]; omega)).mono ?_
      rintro e w5 ⟨rfl, h5⟩
      rw [Q5.out.1]
      have H5 := Mm.hid h5
      clear h5 c1 c2 c3 U5
      have c1 : w5.cell? ⟨w.heap.size, 1, none⟩ = some (.int .i64 (i : Int)) := H5.out.keeps.2.cell 1
      have c2 : w5.cell? ⟨w.heap.size, 2, none⟩ = some (.int .i64 sb) := H5.out.keeps.2.cell 2
      have c3 : w5.cell? ⟨w.heap.size, 3, none⟩ = some (.int .i64 sc) := H5.out.keeps.2.cell 3
      have Q6 := Mm.hid (bad_store (y := sb) SP5.out WL.out)
      have SP6 := Mm.hid Q6.out.2
      have U6 : Hid (_ ∧ _) := ⟨SP5.out.2.2, SP5.out.2.1⟩
      go_wp2_with fail
      refine (H5.out.store i sb (by rw [U6.out.1]; omega) (by rw [U6.out.2]; omega)).mono ?_
      rintro e w6 ⟨rfl, h6⟩
      rw [Q6.out.1]
      have H6 := Mm.hid h6
      clear h6 c1 c2 c3 U6
      have c1 : w6.cell? ⟨w.heap.size, 1, none⟩ = some (.int .i64 (i : Int)) := H6.out.keeps.2.cell 1
      have c2 : w6.cell? ⟨w.heap.size, 2, none⟩ = some (.int .i64 sb) := H6.out.keeps.2.cell 2
      have c3 : w6.cell? ⟨w.heap.size, 3, none⟩ = some (.int .i64 sc) := H6.out.keeps.2.cell 3
      have Q7 := Mm.hid (bad_swap (old := sb) (y := sc) SP6.out WL.out)
      have SP7 := Mm.hid Q7.out.2.2
      have U7 : Hid (_ ∧ _) := ⟨SP6.out.2.2, SP6.out.2.1⟩
      go_wp2_with fail
      refine (H6.out.swap i sb sc (by rw [U7.out.1]; omega) (by rw [U7.out.2]; omega)).mono ?_
      rintro e w7 ⟨rfl, h7⟩
      rw [Q7.out.1, Q7.out.2.1]
      have H7 := Mm.hid h7
      clear h7 c1 c2 c3 U7
      have c1 : w7.cell? ⟨w.heap.size, 1, none⟩ = some (.int .i64 (i : Int)) := H7.out.keeps.2.cell 1
      have c2 : w7.cell? ⟨w.heap.size, 2, none⟩ = some (.int .i64 sb) := H7.out.keeps.2.cell 2
      have c3 : w7.cell? ⟨w.heap.size, 3, none⟩ = some (.int .i64 sc) := H7.out.keeps.2.cell 3
      have Q8 := Mm.hid (bad_add (y := sb) SP7.out WL.out)
      have SP8 := Mm.hid Q8.out.2
      have U8 : Hid (_ ∧ _) := ⟨SP7.out.2.2, SP7.out.2.1⟩
      go_wp2_with fail
      refine (H7.out.add i sb (by rw [U8.out.1]; omega) (by rw [U8.out.2]; omega)).mono ?_
      rintro e w8 ⟨rfl, h8⟩
      rw [Q8.out.1]
      have H8 := Mm.hid h8
      clear h8 c1 c2 c3 U8
      have LW : Hid ((fillL S.ws p r poison).length = k) := by show _ = _; rw [fillL_len (by rw [FL.out.len]; exact hpq)]; exact FL.out.len
      have L8 := Mm.hid ((congrArg List.length SP8.out.1).trans LW.out)
      have WA := Mm.hid (words_all L8.out)
      have B8 := Mm.hid SP8.out.2.2
      go_wp2_with fail
      refine (H8.out.bad B8.out).mono ?_
      rintro e w8' ⟨rfl, rfl⟩
      go_wp2_with fail
      refine (H8.out.words 0 k (by omega)).mono ?_
      rintro e w9 ⟨A9, m9, c9, rfl, hc9, H9⟩
      rw [WA.out.2]
      rw [WA.out.1, SP8.out.1] at H9
      obtain rfl : m9 = k := by rw [← H9.out.1]; exact LW.out
      have KP := Mm.hid H9.out.2.keeps.2
      have HH := Mm.hid H9.out.2
      have BB := Mm.hid (B4.out.trans (H9.out.2.below.mono (Nat.le_of_lt hbx)))
      clear H9 H8
      go_wp2_with fail
      go_loopw [25, 26] (fun j _ wr => ∃ k : Nat, k ≤ m9 ∧ j = .int .i64 (k : Nat) ∧ w9 = wr) (fun j _ _ => m9 - (intOf j).toNat)
      case atStart => exact ⟨0, Nat.zero_le _, rfl, rfl⟩
      case round =>
        obtain ⟨k, hk, rfl, rfl⟩ := hrel
        by_cases hlt : k < m9
        · have V := fillL_get (ws := S.ws) (a := p) (n := r) (x := poison) (by rw [FL.out.len]; exact hpq) k
          rw [FL.out.lo k hlt] at V
          by_cases q1 : p ≤ k
          · by_cases q2 : k < p + r
            · rw [if_pos ⟨q1, q2⟩] at V
              unfold poison at V
              obtain ⟨ad, rfl, _, f1⟩ := KP.out.cell (iL_get V)
              clear V
              go_wp2
              go_roundw
              case rel => exact ⟨k + 1, by omega, by go_num, trivial⟩
              case measure => simp [intOf] <;> omega
            · rw [if_neg (fun h => q2 h.2)] at V
              obtain ⟨ad, rfl, _, f1⟩ := KP.out.cell (iL_get V)
              clear V
              go_wp2
              go_roundw
              case rel => exact ⟨k + 1, by omega, by go_num, trivial⟩
              case measure => simp [intOf] <;> omega
          · rw [if_neg (fun h => q1 h.1)] at V
            obtain ⟨ad, rfl, _, f1⟩ := KP.out.cell (iL_get V)
            clear V
            go_wp2
            go_roundw
            case rel => exact ⟨k + 1, by omega, by go_num, trivial⟩
            case measure => simp [intOf] <;> omega
        · have wi := words_in L8.out hpq
          have OC := Mm.hid wi.2.1
          have OF := Mm.hid (wi.2.2 0)
          have Z0 : Hid ((fillL (fillL S.ws p r poison) p r 0)[i]? = some 0) := by show _ = _; rw [fillL_get (by rw [LW.out]; exact hpq), if_pos ⟨hIp, hIr⟩]
          clear wi KP
          go_wp2_with fail
          refine (HH.out.clear p r (by omega)).mono ?_
          rintro e w10 ⟨rfl, h10⟩
          rw [OC.out]
          rw [OF.out] at h10
          have H10 := Mm.hid h10
          clear h10 HH
          have c1 : w10.cell? ⟨w.heap.size, 1, none⟩ = some (.int .i64 (i : Int)) := H10.out.keeps.1.2.cell 1
          rw [SP8.out.1] at H10
          have U10 := Mm.hid (And.intro SP8.out.2.2 SP8.out.2.1)
          have LG : Hid (∀ tr bad, (⟨fillL (fillL S.ws p r poison) p r 0, tr, bad⟩ : Cm).look i = (0, 0) ∧ (⟨fillL (fillL S.ws p r poison) p r 0, tr, bad⟩ : Cm).looked i = bad) := fun tr bad => look_good (S := ⟨fillL (fillL S.ws p r poison) p r 0, tr, bad⟩) Z0.out (by decide)
          go_wp2_with fail
          refine (H10.out.load i (by show _ ≤ _; exact Nat.le_trans (Nat.le_of_eq U10.out.1) (by decide)) (by show (_ + 1) * 40 ≤ _; rw [U10.out.2]; omega)).mono ?_
          rintro e w11 ⟨rfl, h11⟩
          rw [(LG.out _ _).1]
          have H11 := Mm.hid h11
          clear h11 c1 H10
          go_wp2_with fail
          refine (H11.out.bad (b := 4) ((LG.out _ _).2.trans U10.out.1)).mono ?_
          rintro e w11' ⟨rfl, rfl⟩
          go_wp2
          go_ret
          exact ⟨by simp, B4.out.trans (H11.out.below.mono (Nat.le_of_lt hbx))⟩
end Go.Proofs.Ytkbobgblohohcaa

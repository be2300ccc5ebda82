/- Walk: the law LockTurns, where the picks are at most 2^20. -/
import Derived.Test.YtkbobgblohohcaaTurnS
import Derived.StillTailTactics
namespace Go.Proofs.Ytkbobgblohohcaa
open Go.RowKit Go.Mm Go.Cells
theorem RS.to {base g : Nat} {w0 : World} {rb lL l0 l1 tb n cap k : Nat} {bg : Int} {w : World} (h : RS base g w0 rb lL l0 l1 tb n cap bg k w) : Below base w0 w := by
  obtain ⟨G, v, S, Ts, came, left, m, h1, h2, h3⟩ := h
  exact h2.to
theorem RS.order {base g : Nat} {w0 : World} {rb lL l0 l1 tb n cap k : Nat} {bg : Int} {w : World} (h : RS base g w0 rb lL l0 l1 tb n cap bg k w) (hk : k ≤ 1048576) : ∃ (A : Option Addr) (m c left : Nat), w.cell? ⟨rb, 5, none⟩ = some (.slice A m c) ∧ w.cell? ⟨rb, 4, none⟩ = some (.int .i64 (left : Int)) ∧ Rd w A m 1 (iL (ordL m)) ∧ m ≤ left + 1 ∧ left ≤ 1048576 ∧ m ≤ c := by
  obtain ⟨G, v, S, Ts, came, left, m, h1, h2, h3⟩ := h
  have ho := h1.order
  rw [ordL_len] at ho
  obtain ⟨A, c, rfl, hc, _, hr⟩ := own_slice ho
  have := h3.cek
  have := h3.lec
  exact ⟨A, m, c, left, h1.room.cell 5, h1.room.cell 4, hr, h3.m_le, by omega, hc⟩
theorem safe_of {x : Int} {N : Nat} (hw : -9223372036854775808 ≤ x ∧ x ≤ 9223372036854775807) (hN : N ≤ 1048576) (h : ¬ (-4611686018427387904 - (N : Int) - 1 ≤ x ∧ x ≤ -4611686018427387904)) : ∀ j : Nat, j ≤ N → wrap64 (x + (j : Int)) ≠ poison := by
  intro j hj
  unfold wrap64 poison
  omega
set_option maxRecDepth 100000 in
set_option maxHeartbeats 4000000 in
theorem law_lockturns (tasks begin_ : Int) (A : Option Addr) (N c : Nat) (xs : List Int) (A2 : Option Addr) (N2 c2 : Nat) (ys : List Int) (w : World) (_ : (Lit.int .i64 tasks).wf = true) (hwf : (Lit.int .i64 begin_).wf = true) (h : Sl w 1 8 fI gI A N c xs) (h2 : Sl w 1 8 fI gI A2 N2 c2 ys) (hN : N ≤ 1048576) (_ : N2 ≤ 1048576) :
    Calls Try.prog 13 #[.int .i64 tasks, .int .i64 begin_, .slice A N c, .slice A2 N2 c2] w fun e w' => e = .returned (.bool true) ∧ Below w.heap.size w w' := by
  have R : Hid (Rd w A N 1 (iL xs)) := by have := h.rd; rw [show xs.flatMap fI = iL xs from iL_flat xs] at this; exact this
  have LN := Mm.hid h.len
  have R2 : Hid (Rd w A2 N2 1 (iL ys)) := by have := h2.rd; rw [show ys.flatMap fI = iL ys from iL_flat ys] at this; exact this
  have LN2 := Mm.hid h2.len
  have hcap : N ≤ c := h.cap
  have hcap2 : N2 ≤ c2 := h2.cap
  have hmax2 : N2 ≤ 140737488355328 := by have := h2.room; omega
  have hrange : -9223372036854775808 ≤ begin_ ∧ begin_ ≤ 9223372036854775807 := by simpa [Lit.wf, IntKind.min, IntKind.max, IntKind.signed, IntKind.bits] using hwf
  have HR := Mm.hid hrange
  clear h h2 hwf hrange
  go_enter Try.func13, Try.ntmps13
  go_wp2_with fail
  refine (pick17_any tasks 8 _ (by decide) (by decide)).mono ?_
  rintro e w1 ⟨p, hp, rfl, rfl, -⟩
  go_upto_region 2 with (fail)
  have hn1 : ((1 : Int) + (p : Int)) = ((1 + p : Nat) : Int) := by omega
  rw [hn1]
  clear hn1
  obtain ⟨n, hn⟩ : ∃ n, 1 + p = n := ⟨_, rfl⟩
  rw [hn]
  have hn1 : 1 ≤ n := by omega
  have hn8 : n ≤ 8 := by omega
  clear hn hp
  go_cut [29] from 20 to 29 (fun t wc => ∃ b : Bool, t = .bool b ∧ Hid (b = false → ∀ j : Nat, j ≤ N → wrap64 (begin_ + (j : Int)) ≠ poison) ∧ w = wc)
  case first =>
    by_cases q1 : -4611686018427387904 - (N : Int) - 1 ≤ begin_
    · by_cases q2 : begin_ ≤ -4611686018427387904
      · go_wp2_with fail
        go_meet
        exact ⟨_, rfl, fun h => (by cases h), rfl⟩
      · have S := Mm.hid (safe_of HR.out hN fun h => q2 h.2)
        go_wp2_with fail
        go_meet
        exact ⟨_, rfl, fun _ => S.out, rfl⟩
    · have S := Mm.hid (safe_of HR.out hN fun h => q1 h.1)
      go_wp2_with fail
      go_meet
      exact ⟨_, rfl, fun _ => S.out, rfl⟩
  case rest =>
    obtain ⟨b, rfl, HB, rfl⟩ := hcut
    go_upto_if 29 with (fail)
    go_cut [1] from 29 to 29 (fun t wc => ∃ bg : Int, t = .int .i64 bg ∧ Hid ((∀ j : Nat, j ≤ N → wrap64 (bg + (j : Int)) ≠ poison) ∧ bg = wrap64 (bg + ((0 : Nat) : Int))) ∧ w = wc)
    case first =>
      cases b
      · go_wp2_with fail
        go_meet
        exact ⟨_, rfl, ⟨HB.out (by first | rfl | trivial), by have := HR.out; unfold wrap64; omega⟩, rfl⟩
      · go_wp2_with fail
        go_meet
        exact ⟨_, rfl, ⟨safe_of (by decide) hN (by omega), by unfold wrap64; omega⟩, rfl⟩
    case rest =>
      obtain ⟨bg, rfl, HG, rfl⟩ := hcut
      clear HB HR
      have hbp : bg ≠ poison := by
        have h1 := HG.out.1 0 (Nat.zero_le _)
        rw [← HG.out.2] at h1; exact h1
      have HBP := Mm.hid hbp
      clear hbp
      go_wp2_with fail
      refine (room_any n bg _ hn1 hn8 HBP.out HG.out.2).mono ?_
      rintro e w1 ⟨g, rb, lL, l0, l1, tb, cap, rfl, ST⟩
      go_wp2_with fail
      go_loopw [12, 13, 14, 15] (fun i _ _ _ wr => ∃ k : Nat, k ≤ N ∧ i = .int .i64 (k : Nat) ∧ Hid (RS w.heap.size g w rb lL l0 l1 tb n cap bg k wr)) (fun i _ _ _ _ => N - (intOf i).toNat)
      case atStart => exact ⟨0, Nat.zero_le _, rfl, ST.out⟩
      case round =>
        obtain ⟨k, hk, rfl, HK⟩ := hrel
        clear ST
        have BW := Mm.hid HK.out.to
        by_cases hlt : k < N
        · obtain ⟨x, hx⟩ : ∃ x, xs[k]? = some x := ⟨_, List.getElem?_eq_getElem (by rw [LN.out]; exact hlt)⟩
          have XX := Mm.hid hx
          clear hx
          go_upto_if 47 with (fail)
          go_cut [13] from 47 to 52 (fun t wc => ∃ st : Nat, t = .int .i64 (st : Int) ∧ st < 6 ∧ wr = wc)
          case first =>
            by_cases hl2 : k < N2
            · obtain ⟨y, hy⟩ : ∃ y, ys[k]? = some y := ⟨_, List.getElem?_eq_getElem (by rw [LN2.out]; exact hl2)⟩
              obtain ⟨ad, rfl, _, f1⟩ := (R2.out.below BW.out).cell (iL_get hy)
              clear hy
              go_wp2_with fail
              refine (pick17_any y 6 _ (by decide) (by decide)).mono ?_
              rintro e w7 ⟨st, hst, rfl, rfl, -⟩
              go_wp2_with fail
              go_meet
              exact ⟨st, rfl, hst, rfl⟩
            · go_wp2_with fail
              go_meet
              exact ⟨0, rfl, by decide, rfl⟩
          case rest =>
            obtain ⟨st, rfl, hst, rfl⟩ := hcut
            obtain ⟨ad, rfl, _, f1⟩ := (R.out.below BW.out).cell (iL_get XX.out)
            go_wp2_with fail
            refine (pick17_any x n _ hn1 (by omega)).mono ?_
            rintro e w7 ⟨t, ht, rfl, rfl, -⟩
            clear f1
            go_wp2_with fail
            refine (move_any (st : Int) HK.out ht hn8 (fun j hj => HG.out.1 j (by omega)) (by omega) (by omega) (by omega)).mono ?_
            rintro e w2 ⟨rfl, h9⟩
            have H9 := Mm.hid h9
            clear h9 HK BW
            obtain ⟨A3, m3, c3, l3, r5, r4, r0, hm3, hl3, hmc3⟩ := H9.out.order (by omega)
            clear r0
            go_upto_region 15 with (fail)
            go_cut [82] from 63 to 82 (fun t wc => t = .bool false ∧ Hid (RS w.heap.size g w rb lL l0 l1 tb n cap bg (k + 1) wc))
            case first =>
              have Q : Hid (∀ d, RS w.heap.size g w rb lL l0 l1 tb n cap bg (k + 1) (w2.drewN d)) := fun d => by
                obtain ⟨G, v, S, Ts, came, left, m, h1, h2, h3⟩ := H9.out
                exact ⟨G, v, S, Ts, came, left, m, h1.keep fun _ _ => rfl, h2.write (Fr.drewN (fun _ => False) w2 d) (fun _ h => h.elim), h3⟩
              have hmb : decide (IntKind.i64.wrap ((l3 : Int) + 1) < (m3 : Int)) = false := decide_eq_false (by rw [IntWalk.i64_in _ (by omega)]; omega)
              go_region_held3 (fun w' => w'.cell? ⟨rb, 5, none⟩ = some (.slice A3 m3 c3) ∧ w'.cell? ⟨rb, 4, none⟩ = some (.int .i64 (l3 : Int))) (go_keep)
                (first | (go_at_call 50; refine (holding_any (by exact Q.out 1) hn8).mono ?_; rintro e w8 ⟨cn, rfl, hcn, rfl⟩; have hcb : decide ((1 : Int) < (cn : Int)) = false := decide_eq_false (by omega); have y5 : w2.drew.cell? ⟨rb, 5, none⟩ = some (.slice A3 m3 c3) := r5; have y4 : w2.drew.cell? ⟨rb, 4, none⟩ = some (.int .i64 (l3 : Int)) := r4))
              all_goals go_wp2_with fail
              all_goals go_meet
              all_goals exact ⟨rfl, Mm.hid (Q.out 1)⟩
            case rest =>
              obtain ⟨rfl, HF⟩ := hcut
              clear H9
              go_wp2_with fail
              go_roundw
              case rel => exact ⟨k + 1, by omega, by go_num, HF.out⟩
              case measure => simp [intOf] <;> omega
        · obtain ⟨A3, m3, c3, l3, r5, r4, r0, hm3, hl3, hmc3⟩ := HK.out.order (by omega)
          have R0 := Mm.hid r0
          clear r0 r4
          go_wp2_with fail
          go_loopw [16] (fun i wz => ∃ j : Nat, j ≤ m3 ∧ i = .int .i64 (j : Nat) ∧ wr = wz) (fun i _ => m3 - (intOf i).toNat)
          case atStart => exact ⟨0, Nat.zero_le _, rfl, rfl⟩
          case round =>
            obtain ⟨j, hj, rfl, rfl⟩ := hrel
            by_cases hlt2 : j < m3
            · obtain ⟨ad, rfl, _, f1⟩ := R0.out.cell (iL_get (ordL_get hlt2))
              have hb : ((j : Int) == (j : Int)) = true := by simp
              go_wp2
              go_roundw
              case rel => exact ⟨j + 1, by omega, by go_num, trivial⟩
              case measure => simp [intOf] <;> omega
            · go_wp2
              go_ret
              exact ⟨rfl, BW.out⟩
end Go.Proofs.Ytkbobgblohohcaa

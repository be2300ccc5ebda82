/- Walk: what ReachKinds asks of each of its structs, in memory of its own. -/
import Derived.Test.YthjldlgmfplngaaKn
namespace Go.Proofs.Ythjldlgmfplngaa
open Go.RowKit Go.Mm Go.Maps Go.Reach Go.WideMaps
set_option maxRecDepth 100000 in
set_option maxHeartbeats 1000000 in
theorem knp_next (wA : World) (ps : List Pr) (A : Option Addr) (N c pb : Nat) (hb : Blk wA pb 32 #[.slice A N c]) (hr : Rd wA A N 2 (ps.flatMap fPr)) (hN : ps.length = N) (hl : N * 32 ≤ 140737488351232) (U : List ByteArray) : NextAtp 24 #[.pointer (some ⟨pb, 0, none⟩)] (line ps) (KI wA) U := by
  intro d G w x hI _
  have HI := Mm.hid hI
  have R := Mm.hid (ki_rd hI hr)
  have B := Mm.hid (ki_blk hI hb)
  have HN := Mm.hid hN
  have HL := Mm.hid hl
  have hN9 : N ≤ 4398046511104 := by omega
  clear hI hb hr hN hl
  go_enter Try.func24, Try.ntmps24
  go_wp2_with fail
  obtain ⟨q, hq⟩ : ∃ q, w.heap.size = q := ⟨_, rfl⟩
  obtain ⟨w1, hw1⟩ : ∃ w1, w.alloc (.cells #[.string x, .string (gP x)] 37) = w1 := ⟨_, rfl⟩
  have B1 : Hid (Blk w1 q 37 #[.string x, .string (gP x)]) := by show Blk _ _ _ _; rw [← hw1, ← hq]; exact Blk.new w _ _
  have F1 : Hid (Below w.heap.size w w1) := by show Below _ _ _; rw [← hw1]; exact (Below.refl _ _).alloc (Nat.le_refl _) _
  have RW := Mm.hid (R.out.below F1.out)
  have BW := Mm.hid ((Fr.of_below F1.out).blk B.out fun h => h)
  rw [hw1, hq]
  clear hw1
  have ST : Hid (w1.ownsRow w1.heap.size 37 2 (.slice none 0 0) 0 (r2 gP (line (ps.take 0) x)) ∧ Below w1.heap.size w1 w1) := ⟨⟨rfl, .inl ⟨rfl, rfl⟩⟩, Below.refl _ _⟩
  go_loopw [4, 5] (fun lv iv wr => ∃ k m A1 c1, k ≤ N ∧ m ≤ k ∧ iv = .int .i64 (k : Nat) ∧ lv = .slice A1 m c1 ∧ m ≤ c1 ∧ (line (ps.take k) x).length = m ∧ Hid (wr.ownsRow w1.heap.size 37 2 (.slice A1 m c1) m (r2 gP (line (ps.take k) x)) ∧ Below w1.heap.size w1 wr)) (fun _ iv _ => N - (intOf iv).toNat)
  case atStart => exact ⟨0, 0, none, 0, Nat.zero_le _, Nat.le_refl _, rfl, rfl, Nat.le_refl _, rfl, ST.out⟩
  case round =>
    obtain ⟨k, m, A1, c1, hk, hm, rfl, rfl, hc1, hlm, HQ⟩ := hrel
    clear ST
    have FQ := Mm.hid (Fr.of_below HQ.out.2)
    have d0 : wr.cell? ⟨pb, 0, none⟩ = some (.slice A N c) := (FQ.out.blk BW.out fun h => h).cell 0
    by_cases hlt : k < N
    · obtain ⟨p, hp⟩ : ∃ p, ps[k]? = some p := ⟨_, List.getElem?_eq_getElem (by rw [HN.out]; exact hlt)⟩
      obtain ⟨ad, rfl, _, f0, f1⟩ := rd_pr (RW.out.below HQ.out.2) HN.out hp
      have c0 : wr.cell? ⟨q, 0, none⟩ = some (.string x) := (FQ.out.blk B1.out fun h => h).cell 0
      by_cases hpx : p.a = x
      · have hs := str_same x
        subst hpx
        have LT : Hid (line (ps.take (k + 1)) p.a = line (ps.take k) p.a ++ [p.b]) := by show _ = _; rw [line_take hp, if_pos rfl]
        have HL1 : Hid ((m + 1) * 32 ≤ 140737488355328) := by show _ ≤ _; have := HL.out; omega
        have HS1 : Hid (∀ u ∈ (#[.string p.b, .string (gP p.b)] : Array Value).toList, u.oneCell' = true) := by intro u hu; simp at hu; rcases hu with rfl | rfl <;> rfl
        go_wp2_with fail
        go_quiet (fail)
        obtain ⟨wq, hwq⟩ : ∃ wq, wr.drewN nq = wq := ⟨_, rfl⟩
        have fq : Below w1.heap.size wr wq := by rw [← hwq]; exact (Fr.drewN (fun _ => False) wr nq).below (fun _ h => h.elim) HQ.out.2.size
        have R1 := Mm.hid ((Fr.drewN (fun _ => False) wr nq).own HQ.out.1 fun _ _ h => h)
        rw [hwq] at R1
        have T1 := Mm.hid (HQ.out.2.trans fq)
        have g0 : wq.cell? ⟨pb, 0, none⟩ = some (.slice (some ad) N c) := by rw [← hwq]; exact d0
        have g1 : wq.cell? ⟨(ad.add (k * 2)).block, (ad.add (k * 2)).off + 1, none⟩ = some (.string p.b) := by rw [← hwq]; exact f1
        rw [hwq]
        clear hp HQ d0 f0 f1 c0 fq hwq FQ
        obtain ⟨W6, hW6⟩ : ∃ W6, (wq.alloc (.cells #[.string p.b, .string p.b] 37)).drew = W6 := ⟨_, rfl⟩
        have f6 : Fr (fun _ => False) wq W6 := by rw [← hW6]; exact (Fr.alloc (fun _ => False) wq _).trans (Fr.drew (fun _ => False) _) fun _ _ h => h
        have BX : Hid (Blk W6 wq.heap.size 37 #[.string p.b, .string p.b]) := by show Blk _ _ _ _; rw [← hW6]; exact (Blk.new wq _ _).keep rfl
        have R6 := Mm.hid (f6.own R1.out fun _ _ h => h)
        have T6 := Mm.hid (T1.out.trans (f6.below (fun _ h => h.elim) T1.out.size))
        have HW6 := Mm.hid hW6
        clear hW6 f6
        go_wp2_with fail
        go_region_law ((rw [HW6.out]; refine step_ape1 w1.heap.size rfl (.tmp 20) (.tmp 32) 32 37 (.agg #[.string ByteArray.empty, .string ByteArray.empty]) 2 32 #[.string p.b, .string p.b] wq.heap.size rfl Try.underlying32 info37p rfl (by decide) (by decide) (.slice A1 m c1) m _ rfl rfl BX.out rfl HS1.out R6.out T6.out.size HL1.out ?_; intro v1 wb k1 k3 k4; obtain ⟨A2, c2, hv, hc2, _, _⟩ := own_slice k1; subst hv; have K1 := Mm.hid k1; have K2 := Mm.hid (T6.out.grown k3 T6.out.size fun k hk => (own_lt R6.out hk).1); clear k1 k3 k4))

        all_goals (
          go_wp2_with fail
          have NX : Hid ((line (ps.take (k + 1)) p.a).length = m + 1 ∧ wb.ownsRow w1.heap.size 37 2 (.slice A2 (m + 1) c2) (m + 1) (r2 gP (line (ps.take (k + 1)) p.a)) ∧ Below w1.heap.size w1 wb) := by
            show _ ∧ _ ∧ _
            rw [LT.out, ← r2_snoc]
            exact ⟨by simp [hlm], K1.out, K2.out⟩
          go_roundw
          case rel => exact ⟨k + 1, m + 1, A2, c2, by omega, by omega, by go_num, rfl, hc2, NX.out.1, NX.out.2⟩
          case measure => simp [intOf] <;> omega)
      · have hs := str_ne hpx
        have NX : Hid (∀ n, (line (ps.take (k + 1)) x).length = m ∧ (wr.drewN n).ownsRow w1.heap.size 37 2 (.slice A1 m c1) m (r2 gP (line (ps.take (k + 1)) x)) ∧ Below w1.heap.size w1 (wr.drewN n)) := by
          show ∀ _, _
          intro n
          rw [line_take hp, if_neg fun e => hpx e.symm]
          exact ⟨hlm, (Fr.drewN (fun _ => False) wr n).own HQ.out.1 fun _ _ h => h, HQ.out.2.trans ((Fr.drewN (fun _ => False) wr n).below (fun _ h => h.elim) HQ.out.2.size)⟩
        clear hpx hp HQ FQ
        go_wp2_with fail
        go_quiet (fail)
        clear d0 f0 f1 c0
        go_wp2
        go_roundw
        case rel => exact ⟨k + 1, m, A1, c1, by omega, by omega, by go_num, rfl, hc1, (NX.out 0).1, (NX.out _).2⟩
        case measure => simp [intOf] <;> omega
    · have hkN : k = N := by omega
      subst hkN
      have HQ2 := HQ.out
      rw [List.take_of_length_le (by rw [HN.out]; exact Nat.le_refl _)] at HQ2
      have HQH := Mm.hid HQ2
      clear HQ HQ2 FQ
      go_wp2_with fail
      go_ret
      have I0 := HI.out
      have FB : Below w.heap.size w wr := F1.out.trans (HQH.out.2.mono F1.out.size)
      refine ⟨A1, m, c1, G, rfl, hc1, Rd.of_own HQH.out.1, ⟨I0.1, Nat.le_trans I0.2.1 FB.size, fun j hj => (FB.block j (Nat.lt_of_lt_of_le hj I0.2.1)).trans (I0.2.2 j hj)⟩, fun j hj => .inl hj, fun hn ad ha => ?_, (Fr.of_below FB).mono fun _ h => h.elim⟩
      have hb := own_lt HQH.out.1 (b := ad.block) (by
        obtain ⟨A', c', he, _, hA, _⟩ := own_slice HQH.out.1
        injection he with he1 he2 he3
        subst he1 he3
        exact hA ad ha)
      exact ⟨hb.2, .inr (Nat.le_trans F1.out.size hb.1)⟩
end Go.Proofs.Ythjldlgmfplngaa

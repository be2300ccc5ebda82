/- The walk of SchedTurns. -/
import Derived.Test.YtecppnkfnppmoaaNamesW
import Derived.Test.YtecppnkfnppmoaaTurnsN
import Derived.Test.YtecppnkfnppmoaaFair
namespace Go.Proofs.Ytecppnkfnppmoaa
open Go.RowKit Go.Mm Go.Fly
attribute [local go_sem] Oper.semAt_some
theorem tmod_emod (h n : Int) (hn : 0 < n) : (if h.tmod n < 0 then h.tmod n + n else h.tmod n) = h % n := by
  rw [Int.tmod_eq_emod]
  have := Int.emod_lt_of_pos h hn
  have := Int.emod_nonneg h (show n ≠ 0 by omega)
  have hna : (n.natAbs : Int) = n := by omega
  split <;> split <;> omega
/-- a place told -/
def WhEnds (n : Nat) (x : Int) (w : World) (e : Ending) (w' : World) : Prop := ∃ m : Nat, m < n ∧ e = .returned (.int .i64 (m : Int)) ∧ w' = w ∧ Hid ((m : Int) = x % (n : Int))
theorem which_any (x : Int) (n : Nat) (w : World) (hn : 1 ≤ n) (hn' : n ≤ 4294967296) : Calls Try.prog 31 #[.int .i64 x, .int .i64 (n : Int)] w (WhEnds n x w) := by
  have hz : ((n : Int) == 0) = false := by rw [beq_eq_false_iff_ne]; omega
  have hr := Mm.hid (tmod_emod x n (by omega))
  have q1 := Int.emod_nonneg x (show (n : Int) ≠ 0 by omega)
  have q2 := Int.emod_lt_of_pos x (show (0 : Int) < n by omega)
  have fin : ∀ y : Int, y = x % (n : Int) → WhEnds n x w (.returned (.int .i64 y)) w := fun y hy =>
    ⟨(x % (n : Int)).toNat, by omega, by rw [hy, Int.toNat_of_nonneg q1], rfl, Int.toNat_of_nonneg q1⟩
  have FIN := Mm.hid fin
  clear fin
  have hb := Mm.hid (And.intro q1 q2)
  clear q1 q2
  by_cases h : x.tmod n < 0
  · have e1 : Hid (x.tmod n + n = x % (n : Int)) := by have := hr.out; rw [if_pos h] at this; exact this
    have b1 : x.tmod n + n ≤ 4294967296 := by have := e1.out; have := hb.out; omega
    have b2 : 0 ≤ x.tmod n + n := by have := e1.out; have := hb.out; omega
    go_enter Try.func31, Try.ntmps31
    go_wp2
    go_ret
    exact FIN.out _ e1.out
  · have e1 : Hid (x.tmod n = x % (n : Int)) := by have := hr.out; rw [if_neg h] at this; exact this
    go_enter Try.func31, Try.ntmps31
    go_wp2
    go_ret
    exact FIN.out _ e1.out
theorem own_cap {w : World} {base e n c m : Nat} {A : Option Addr} {xs : List Value} (h : w.ownsRow base e 1 (.slice A m c) n xs) : c ≤ 9223372036854775807 := by
  rcases h.2 with ⟨h1, _⟩ | ⟨g, cap, cur, h1, _, _, _, h2, _⟩
  · injection h1 with _ _ h1; omega
  · injection h1 with _ _ h1; subst h1; exact h2
set_option maxRecDepth 100000 in
set_option maxHeartbeats 4000000 in
theorem law_turns (a n k : Int) (w : World) (_ : (Lit.int .i64 a).wf = true) (_ : (Lit.int .i64 n).wf = true) (_ : (Lit.int .i64 k).wf = true) :
    Calls Try.prog 11 #[.int .i64 a, .int .i64 n, .int .i64 k] w fun e w' => e = .returned (.bool true) ∧ Below w.heap.size w w' := by
  have AB := Mm.hid (alive_below w)
  by_cases h : 1 ≤ a ∧ a ≤ 64 ∧ 1 ≤ n ∧ n ≤ 1048576
  · obtain ⟨h1, h2, h3, h4⟩ := h
    obtain ⟨a, rfl⟩ := Int.eq_ofNat_of_zero_le (show 0 ≤ a by omega)
    obtain ⟨n, rfl⟩ := Int.eq_ofNat_of_zero_le (show 0 ≤ n by omega)
    have RN : Hid (∀ W, Calls Try.prog 14 #[.int .i64 (a : Nat), .int .i64 (n : Nat)] W (RowEnds W (rndL a n))) := by
      intro W
      have := sched_round_any (a : Nat) (n : Nat) W
      rw [show rnd (a : Int) (n : Int) = rndL a n from if_pos ⟨h1, h2, h3, h4⟩] at this
      exact this
    go_enter Try.func11, Try.ntmps11
    go_wp2_with fail
    refine AB.out.mono ?_
    rintro _ w1 ⟨rfl, hB1⟩
    go_wp2_with fail
    refine (RN.out w1).mono ?_
    rintro _ w2 ⟨A, m, c, rfl, hmc, K2⟩
    have em : n = m := by have := K2.out.1; rw [rndL_len] at this; exact this
    subst em
    have B2 := Mm.hid (hB1.out.trans (K2.out.2.2.mono hB1.out.size))
    have S2 := Mm.hid K2.out.2.2.size
    go_wp2_with fail
    go_loopw [9, 10] (fun v i wr => ∃ (j : Nat), j ≤ a ∧ i = .int .i64 (j : Nat) ∧ Hid (wr.ownsRow w2.heap.size 3 1 v j (iL (List.replicate j (-1))) ∧ Below w2.heap.size w2 wr)) (fun v _ _ => a - (match v with | .slice _ m _ => m | _ => 0))
    case atStart => exact ⟨0, Nat.zero_le _, rfl, ⟨by simp [iL], .inl ⟨rfl, rfl⟩⟩, Below.refl _ _⟩
    case round =>
      obtain ⟨j, hj, rfl, HK⟩ := hrel
      obtain ⟨A1, c1, hv, hc1, _, _⟩ := own_slice HK.out.1
      subst hv
      have hsz := HK.out.2.size
      by_cases hlt : j < a
      · have hone : ∀ u ∈ (#[Value.int .i64 (-1)] : Array Value).toList, u.oneCell' = true := by simp; rfl
        have HO := Mm.hid hone
        clear hone
        go_wp2_with (at_builtin; go_must (refine wp_ape1 w2.heap.size rfl _ _ 22 3 (.int .i64 0) 1 8 #[.int .i64 (-1)] rfl Try.underlying22 info3 rfl (by decide) (by decide) (.slice A1 j c1) j _ rfl rfl rfl HO.out (by exact HK.out.1) HK.out.2 hsz (by omega) ?_))
        intro v1 w3 k1 k2 k3 k4
        have K1 : Hid (w3.ownsRow w2.heap.size 3 1 v1 (j + 1) (iL (List.replicate (j + 1) (-1)))) := by
          rw [List.replicate_succ', ← iL_snoc]; exact k1
        have K2 := Mm.hid k2
        clear k1 k2 k3 k4
        obtain ⟨A3, c3, hv, _⟩ := own_slice K1.out
        subst hv
        go_wp2
        go_roundw
        case rel => exact ⟨j + 1, by omega, by go_num, K1.out, K2.out⟩
        case measure => simp <;> omega
      · have ej : a = j := by omega
        subst ej
        have WA := Mm.hid (which_any k n wr (by omega) (by omega))
        go_wp2_with fail
        refine WA.out.mono ?_
        rintro _ W' ⟨q, hq, rfl, eW, _⟩
        rw [eW]
        clear eW W' WA
        have OL := Mm.hid ((Fr.of_below HK.out.2).own K2.out.2.1 fun _ _ h => h)
        obtain ⟨gl, cl, hv, _, _, _, hcell, _⟩ := own_blk OL.out (by omega)
        injection hv with e1 _ e3
        subst e1
        subst e3
        have f1 := hcell q _ (iL_get (rndL_at hq))
        clear hcell
        have RL : Hid (∀ d, Rd (wr.drewN d) (some ⟨gl, 0, none⟩) n 1 (iL (rndL a n))) := Mm.hid fun d => Rd.drewN (Rd.of_own OL.out)
        have RE : Hid (∀ d, Rd (wr.drewN d) A1 a 1 (iL (List.replicate a (-1)))) := Mm.hid fun d => Rd.drewN (Rd.of_own HK.out.1)
        have FIN : Hid (∀ d, Below w.heap.size w (wr.drewN d)) := fun d => by
          have := B2.out.trans (HK.out.2.mono B2.out.size)
          exact ⟨this.os, this.tape, this.output, this.size, this.block⟩
        have i0 : (0 : Int) ≤ (q : Nat) := by omega
        have i1 : ((q : Nat) : Int) < (n : Nat) := by omega
        have az : ((a : Int) == 0) = false := by rw [beq_eq_false_iff_ne]; omega
        have hm : (q : Int).tmod (a : Int) = ((q % a : Nat) : Int) := rfl
        have FA : Hid (∀ d, Calls Try.prog 24 #[.slice (some ⟨gl, 0, none⟩) n c, .slice A1 a c1, .int .i64 (a : Nat)] (wr.drewN d) (FairIs true (wr.drewN d))) := Mm.hid fun d =>
          (fair_any (some ⟨gl, 0, none⟩) n c A1 a c1 (rndL a n) (List.replicate a (-1)) a _ (RL.out d) (RE.out d) hmc (own_cap OL.out) hc1 (by omega) (by omega) (by omega)).mono fun e w' he => by
            obtain ⟨b, rfl, hb, rfl⟩ := he
            rw [hb.2 (fair_turns a n (by omega))]
            exact ⟨rfl, rfl⟩
        go_wp2_with fail
        go_quiet ((go_at_call 24; exact Calls.quiet_of_same ((FA.out _).mono fun _ _ he => ⟨he.1, he.2.symm⟩)))
        by_cases hna : n < a
        · go_wp2_with fail
          go_ret
          exact ⟨rfl, FIN.out _⟩
        · have FB : Hid (∀ d, Calls Try.prog 24 #[.slice (some ⟨gl, 0, none⟩) n c, .slice A1 a c1, .int .i64 ((a : Nat) - 1)] (wr.drewN d) (FairIs false (wr.drewN d))) := Mm.hid fun d =>
            (fair_any (some ⟨gl, 0, none⟩) n c A1 a c1 (rndL a n) (List.replicate a (-1)) _ _ (RL.out d) (RE.out d) hmc (own_cap OL.out) hc1 (by omega) (by omega) (by omega)).mono fun e w' he => by
              obtain ⟨b, rfl, hb, rfl⟩ := he
              cases b
              · exact ⟨rfl, rfl⟩
              · exact absurd (hb.1 rfl) (not_fair_turns a n (by omega))
          go_wp2_with fail
          refine (FB.out _).mono ?_
          rintro _ W' ⟨rfl, eW⟩
          rw [← eW]
          clear eW W'
          go_wp2_with fail
          go_ret
          exact ⟨rfl, FIN.out _⟩
  · have RN : Hid (∀ W, Calls Try.prog 14 #[.int .i64 a, .int .i64 n] W (RowEnds W [])) := by
      intro W
      have := sched_round_any a n W
      rw [rnd_bad h] at this
      exact this
    have fin : ∀ (w1 w2 : World) (A : Option Addr) (m c : Nat), Hid (Below w.heap.size w w1) → Hid (([] : List Int).length = m ∧ w2.ownsRow w1.heap.size 3 1 (.slice A m c) m (iL []) ∧ Below w1.heap.size w1 w2) → m = 0 ∧ Hid (Below w.heap.size w w2) := fun w1 w2 A m c hB K =>
      ⟨K.out.1.symm, hB.out.trans (K.out.2.2.mono hB.out.size)⟩
    have FIN := Mm.hid fin
    have H := Mm.hid h
    clear fin h
    by_cases h1 : a < 1
    · go_enter Try.func11, Try.ntmps11
      go_wp2_with fail
      refine AB.out.mono ?_
      rintro _ w1 ⟨rfl, hB1⟩
      go_wp2_with fail
      refine (RN.out w1).mono ?_
      rintro _ w2 ⟨A, m, c, rfl, hmc, K2⟩
      obtain ⟨rfl, B2⟩ := FIN.out _ _ _ _ _ hB1 K2
      go_wp2_with fail
      go_ret
      exact ⟨rfl, B2.out⟩
    by_cases h2 : 64 < a
    · go_enter Try.func11, Try.ntmps11
      go_wp2_with fail
      refine AB.out.mono ?_
      rintro _ w1 ⟨rfl, hB1⟩
      go_wp2_with fail
      refine (RN.out w1).mono ?_
      rintro _ w2 ⟨A, m, c, rfl, hmc, K2⟩
      obtain ⟨rfl, B2⟩ := FIN.out _ _ _ _ _ hB1 K2
      go_wp2_with fail
      go_ret
      exact ⟨rfl, B2.out⟩
    by_cases h3 : n < 1
    · go_enter Try.func11, Try.ntmps11
      go_wp2_with fail
      refine AB.out.mono ?_
      rintro _ w1 ⟨rfl, hB1⟩
      go_wp2_with fail
      refine (RN.out w1).mono ?_
      rintro _ w2 ⟨A, m, c, rfl, hmc, K2⟩
      obtain ⟨rfl, B2⟩ := FIN.out _ _ _ _ _ hB1 K2
      go_wp2_with fail
      go_ret
      exact ⟨rfl, B2.out⟩
    by_cases h4 : 1048576 < n
    · go_enter Try.func11, Try.ntmps11
      go_wp2_with fail
      refine AB.out.mono ?_
      rintro _ w1 ⟨rfl, hB1⟩
      go_wp2_with fail
      refine (RN.out w1).mono ?_
      rintro _ w2 ⟨A, m, c, rfl, hmc, K2⟩
      obtain ⟨rfl, B2⟩ := FIN.out _ _ _ _ _ hB1 K2
      go_wp2_with fail
      go_ret
      exact ⟨rfl, B2.out⟩
    exact absurd H.out (by omega)
end Go.Proofs.Ytecppnkfnppmoaa

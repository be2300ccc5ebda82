/- Walks: fairness, the program's. -/
import Derived.Test.YtecppnkfnppmoaaFairN
import Derived.Test.YtecppnkfnppmoaaSame
namespace Go.Proofs.Ytecppnkfnppmoaa
open Go.RowKit Go.Mm Go.Fly
def FairEnds (ps es : List Int) (W : Int) (w : World) (e : Ending) (w' : World) : Prop := ∃ b : Bool, e = .returned (.bool b) ∧ (b = true ↔ Fairly ps es W) ∧ w = w'
theorem fair_no {ps es : List Int} {W : Int} {t : Nat} {x : Int} {k : Nat} (hx : es[t]? = some x) (hk : k ≤ eff ps.length x) (h : W.toNat ≤ wt ps t k) : ¬ Fairly ps es W := fun hf => by
  have := hf.2 t x hx k hk
  omega
set_option maxRecDepth 100000 in
set_option maxHeartbeats 2000000 in
theorem fair_any (A1 : Option Addr) (n1 c1 : Nat) (A2 : Option Addr) (n2 c2 : Nat) (ps es : List Int) (W : Int) (w : World) (h1 : Rd w A1 n1 1 (iL ps)) (h2 : Rd w A2 n2 1 (iL es)) (hc1 : n1 ≤ c1) (hm1 : c1 ≤ 9223372036854775807) (hc2 : n2 ≤ c2) (hb1 : n1 ≤ 17592186044416) (hb2 : n2 ≤ 17592186044416) (hW : W ≤ 9223372036854775807) :
    Calls Try.prog 24 #[.slice A1 n1 c1, .slice A2 n2 c2, .int .i64 W] w (FairEnds ps es W w) := by
  have l1 : ps.length = n1 := by have := h1.1; rw [iL_len] at this; omega
  have l2 : es.length = n2 := by have := h2.1; rw [iL_len] at this; omega
  have R1 := Mm.hid h1
  have R2 := Mm.hid h2
  have L1 := Mm.hid l1
  have L2 := Mm.hid l2
  clear h1 h2 l1 l2
  by_cases hW1 : W < 1
  · have fin : Hid (¬ Fairly ps es W) := fun h => by have := h.1; omega
    go_enter Try.func24, Try.ntmps24
    go_wp2
    go_ret
    exact ⟨false, rfl, ⟨fun h => (by cases h), fun h => absurd h fin.out⟩, rfl⟩
  · go_enter Try.func24, Try.ntmps24
    go_wp2_with fail
    go_loop [16] (fun i => ∃ t : Nat, t ≤ n2 ∧ i = .int .i64 (t : Nat) ∧ Hid (∀ (j : Nat) (x : Int), j < t → es[j]? = some x → Ok ps j (eff ps.length x) W.toNat)) (fun i => n2 - (intOf i).toNat)
    case atStart => exact ⟨0, Nat.zero_le _, rfl, fun j x h => absurd h (Nat.not_lt_zero _)⟩
    case round =>
      obtain ⟨t, ht, rfl, HT⟩ := hrel
      by_cases hlt : t < n2
      · obtain ⟨x, hx⟩ : ∃ x, es[t]? = some x := ⟨_, List.getElem?_eq_getElem (by rw [L2.out]; exact hlt)⟩
        obtain ⟨ad2, rfl, _, f2⟩ := R2.out.cell (iL_get hx)
        have HX := Mm.hid hx
        clear hx
        -- the end that counts
        obtain ⟨E, hE⟩ : ∃ E, eff ps.length x = E := ⟨_, rfl⟩
        have EH := Mm.hid hE
        have hEn : E ≤ n1 := by rw [← hE, ← L1.out]; exact eff_le _ _
        have EV : Hid ((if 0 ≤ x ∧ x < (n1 : Int) then x else (n1 : Int) - 1) = (E : Int) - 1) := by
          show _ = _
          rw [← hE, L1.out]
          unfold eff
          split <;> omega
        clear hE
        have hW0 : 1 ≤ W := by omega
        have WN : Hid ((W.toNat : Int) = W) := Int.toNat_of_nonneg (by omega)
        have three : (x < 0 ∧ E = n1) ∨ ((n1 : Int) ≤ x ∧ E = n1) ∨ ∃ e : Nat, x = (e : Int) ∧ E = e + 1 ∧ e < n1 := by
          have := EH.out
          rw [L1.out] at this
          unfold eff at this
          split at this
          · right; right; exact ⟨x.toNat, by omega, by omega, by omega⟩
          · by_cases h : x < 0
            · exact .inl ⟨h, by omega⟩
            · exact .inr (.inl ⟨by omega, by omega⟩)
        clear EV
        have hEz : Hid (∀ j, j ≤ 0 → wt ps t j < W.toNat) := fun j hj => by
          have : j = 0 := by omega
          subst this
          show 0 < _
          have := WN.out
          omega
        rcases three with ⟨hx0, hEN⟩ | ⟨hx0, hEN⟩ | ⟨e, rfl, rfl, he⟩
        · subst hEN
          go_wp2_with fail
          go_loop [9, 37] (fun v i => ∃ k : Nat, k ≤ E ∧ i = .int .i64 (k : Nat) ∧ v = .int .i64 (wt ps t k : Nat) ∧ Hid (∀ j, j ≤ k → wt ps t j < W.toNat)) (fun _ i => E - (intOf i).toNat)
          case atStart => exact ⟨0, Nat.zero_le _, rfl, rfl, hEz.out⟩
          case round =>
            obtain ⟨k, hk, rfl, rfl, HK⟩ := hrel
            have hwk := wt_le ps t k
            by_cases hlt2 : k < E
            · obtain ⟨p, hp⟩ : ∃ p, ps[k]? = some p := ⟨_, List.getElem?_eq_getElem (by rw [L1.out]; omega)⟩
              obtain ⟨ad1, rfl, _, f1⟩ := R1.out.cell (iL_get hp)
              by_cases hpt : p = (t : Int)
              · have hpb : (p == (t : Int)) = true := beq_iff_eq.2 hpt
                have e0 : wt ps t (k + 1) = 0 := by unfold wt; rw [hp, hpt, if_pos rfl]
                have HN : Hid (∀ j, j ≤ k + 1 → wt ps t j < W.toNat) := ok_succ HK.out (by rw [e0]; have := WN.out; omega)
                have E0 := Mm.hid e0
                clear e0 hp hpt
                go_wp2
                go_round
                case rel => exact ⟨k + 1, by omega, by go_num, by rw [E0.out]; rfl, HN.out⟩
                case measure => simp [intOf] <;> omega
              · have hpb : (p == (t : Int)) = false := beq_eq_false_iff_ne.2 hpt
                have e0 : wt ps t (k + 1) = wt ps t k + 1 := by
                  conv => lhs; unfold wt
                  rw [hp, if_neg (fun h => hpt (Option.some.inj h))]
                have E0 := Mm.hid e0
                clear e0 hp hpt
                by_cases hge : W ≤ (wt ps t k : Int) + 1
                · have fin : Hid (¬ Fairly ps es W) := fair_no (k := k + 1) HX.out (by rw [EH.out]; omega) (by rw [E0.out]; have := WN.out; omega)
                  go_wp2
                  go_ret
                  exact ⟨false, rfl, ⟨fun h => (by cases h), fun h => absurd h fin.out⟩, rfl⟩
                · have HN : Hid (∀ j, j ≤ k + 1 → wt ps t j < W.toNat) := ok_succ HK.out (by rw [E0.out]; have := WN.out; omega)
                  go_wp2
                  go_round
                  case rel => exact ⟨k + 1, by omega, by go_num, by rw [E0.out]; go_num, HN.out⟩
                  case measure => simp [intOf] <;> omega
            · have hkE : k = E := by omega
              have HKE := Mm.hid hkE
              have HN : Hid (∀ (j : Nat) (y : Int), j < t + 1 → es[j]? = some y → Ok ps j (eff ps.length y) W.toNat) := fun j y hj hy => by
                by_cases e : j = t
                · subst e
                  have := HX.out
                  rw [this] at hy
                  cases hy
                  rw [EH.out, ← HKE.out]
                  exact HK.out
                · exact HT.out j y (by omega) hy
              clear hkE
              go_wp2
              go_round
              case rel => exact ⟨t + 1, by omega, by go_num, HN.out⟩
              case measure => simp [intOf] <;> omega
        · subst hEN
          go_wp2_with fail
          go_loop [9, 37] (fun v i => ∃ k : Nat, k ≤ E ∧ i = .int .i64 (k : Nat) ∧ v = .int .i64 (wt ps t k : Nat) ∧ Hid (∀ j, j ≤ k → wt ps t j < W.toNat)) (fun _ i => E - (intOf i).toNat)
          case atStart => exact ⟨0, Nat.zero_le _, rfl, rfl, hEz.out⟩
          case round =>
            obtain ⟨k, hk, rfl, rfl, HK⟩ := hrel
            have hwk := wt_le ps t k
            by_cases hlt2 : k < E
            · obtain ⟨p, hp⟩ : ∃ p, ps[k]? = some p := ⟨_, List.getElem?_eq_getElem (by rw [L1.out]; omega)⟩
              obtain ⟨ad1, rfl, _, f1⟩ := R1.out.cell (iL_get hp)
              by_cases hpt : p = (t : Int)
              · have hpb : (p == (t : Int)) = true := beq_iff_eq.2 hpt
                have e0 : wt ps t (k + 1) = 0 := by unfold wt; rw [hp, hpt, if_pos rfl]
                have HN : Hid (∀ j, j ≤ k + 1 → wt ps t j < W.toNat) := ok_succ HK.out (by rw [e0]; have := WN.out; omega)
                have E0 := Mm.hid e0
                clear e0 hp hpt
                go_wp2
                go_round
                case rel => exact ⟨k + 1, by omega, by go_num, by rw [E0.out]; rfl, HN.out⟩
                case measure => simp [intOf] <;> omega
              · have hpb : (p == (t : Int)) = false := beq_eq_false_iff_ne.2 hpt
                have e0 : wt ps t (k + 1) = wt ps t k + 1 := by
                  conv => lhs; unfold wt
                  rw [hp, if_neg (fun h => hpt (Option.some.inj h))]
                have E0 := Mm.hid e0
                clear e0 hp hpt
                by_cases hge : W ≤ (wt ps t k : Int) + 1
                · have fin : Hid (¬ Fairly ps es W) := fair_no (k := k + 1) HX.out (by rw [EH.out]; omega) (by rw [E0.out]; have := WN.out; omega)
                  go_wp2
                  go_ret
                  exact ⟨false, rfl, ⟨fun h => (by cases h), fun h => absurd h fin.out⟩, rfl⟩
                · have HN : Hid (∀ j, j ≤ k + 1 → wt ps t j < W.toNat) := ok_succ HK.out (by rw [E0.out]; have := WN.out; omega)
                  go_wp2
                  go_round
                  case rel => exact ⟨k + 1, by omega, by go_num, by rw [E0.out]; go_num, HN.out⟩
                  case measure => simp [intOf] <;> omega
            · have hkE : k = E := by omega
              have HKE := Mm.hid hkE
              have HN : Hid (∀ (j : Nat) (y : Int), j < t + 1 → es[j]? = some y → Ok ps j (eff ps.length y) W.toNat) := fun j y hj hy => by
                by_cases e : j = t
                · subst e
                  have := HX.out
                  rw [this] at hy
                  cases hy
                  rw [EH.out, ← HKE.out]
                  exact HK.out
                · exact HT.out j y (by omega) hy
              clear hkE
              go_wp2
              go_round
              case rel => exact ⟨t + 1, by omega, by go_num, HN.out⟩
              case measure => simp [intOf] <;> omega
        · skip
          go_wp2_with fail
          go_loop [9, 37] (fun v i => ∃ k : Nat, k ≤ (e + 1) ∧ i = .int .i64 (k : Nat) ∧ v = .int .i64 (wt ps t k : Nat) ∧ Hid (∀ j, j ≤ k → wt ps t j < W.toNat)) (fun _ i => (e + 1) - (intOf i).toNat)
          case atStart => exact ⟨0, Nat.zero_le _, rfl, rfl, hEz.out⟩
          case round =>
            obtain ⟨k, hk, rfl, rfl, HK⟩ := hrel
            have hwk := wt_le ps t k
            by_cases hlt2 : k < (e + 1)
            · obtain ⟨p, hp⟩ : ∃ p, ps[k]? = some p := ⟨_, List.getElem?_eq_getElem (by rw [L1.out]; omega)⟩
              obtain ⟨ad1, rfl, _, f1⟩ := R1.out.cell (iL_get hp)
              by_cases hpt : p = (t : Int)
              · have hpb : (p == (t : Int)) = true := beq_iff_eq.2 hpt
                have e0 : wt ps t (k + 1) = 0 := by unfold wt; rw [hp, hpt, if_pos rfl]
                have HN : Hid (∀ j, j ≤ k + 1 → wt ps t j < W.toNat) := ok_succ HK.out (by rw [e0]; have := WN.out; omega)
                have E0 := Mm.hid e0
                clear e0 hp hpt
                go_wp2
                go_round
                case rel => exact ⟨k + 1, by omega, by go_num, by rw [E0.out]; rfl, HN.out⟩
                case measure => simp [intOf] <;> omega
              · have hpb : (p == (t : Int)) = false := beq_eq_false_iff_ne.2 hpt
                have e0 : wt ps t (k + 1) = wt ps t k + 1 := by
                  conv => lhs; unfold wt
                  rw [hp, if_neg (fun h => hpt (Option.some.inj h))]
                have E0 := Mm.hid e0
                clear e0 hp hpt
                by_cases hge : W ≤ (wt ps t k : Int) + 1
                · have fin : Hid (¬ Fairly ps es W) := fair_no (k := k + 1) HX.out (by rw [EH.out]; omega) (by rw [E0.out]; have := WN.out; omega)
                  go_wp2
                  go_ret
                  exact ⟨false, rfl, ⟨fun h => (by cases h), fun h => absurd h fin.out⟩, rfl⟩
                · have HN : Hid (∀ j, j ≤ k + 1 → wt ps t j < W.toNat) := ok_succ HK.out (by rw [E0.out]; have := WN.out; omega)
                  go_wp2
                  go_round
                  case rel => exact ⟨k + 1, by omega, by go_num, by rw [E0.out]; go_num, HN.out⟩
                  case measure => simp [intOf] <;> omega
            · have hkE : k = (e + 1) := by omega
              have HKE := Mm.hid hkE
              have HN : Hid (∀ (j : Nat) (y : Int), j < t + 1 → es[j]? = some y → Ok ps j (eff ps.length y) W.toNat) := fun j y hj hy => by
                by_cases e : j = t
                · subst e
                  have := HX.out
                  rw [this] at hy
                  cases hy
                  rw [EH.out, ← HKE.out]
                  exact HK.out
                · exact HT.out j y (by omega) hy
              clear hkE
              go_wp2
              go_round
              case rel => exact ⟨t + 1, by omega, by go_num, HN.out⟩
              case measure => simp [intOf] <;> omega
      · go_wp2
        go_ret
        refine ⟨true, rfl, ⟨fun _ => ⟨by omega, fun j x hx => HT.out j x ?_ hx⟩, fun _ => rfl⟩, rfl⟩
        have := (List.getElem?_eq_some_iff.1 hx).1
        have := L2.out
        omega
end Go.Proofs.Ytecppnkfnppmoaa

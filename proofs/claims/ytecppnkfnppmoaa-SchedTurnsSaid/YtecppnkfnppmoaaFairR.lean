/- Walks: fairness, the document's. -/
import Derived.Test.YtecppnkfnppmoaaFairW
namespace Go.Proofs.Ytecppnkfnppmoaa
open Go.RowKit Go.Mm Go.Fly
set_option maxRecDepth 100000 in
set_option maxHeartbeats 4000000 in
theorem ref_fair_any (A1 : Option Addr) (n1 c1 : Nat) (A2 : Option Addr) (n2 c2 : Nat) (ps es : List Int) (W : Int) (w : World) (h1 : Rd w A1 n1 1 (iL ps)) (h2 : Rd w A2 n2 1 (iL es)) (_ : n1 ≤ c1) (_ : n2 ≤ c2) (hb1 : n1 ≤ 17592186044416) (hb2 : n2 ≤ 17592186044416) (hW : W ≤ 9223372036854775807) :
    Calls Try.prog 22 #[.slice A1 n1 c1, .slice A2 n2 c2, .int .i64 W] w (FairEnds ps es W w) := by
  have l1 : ps.length = n1 := by have := h1.1; rw [iL_len] at this; omega
  have l2 : es.length = n2 := by have := h2.1; rw [iL_len] at this; omega
  have R1 := Mm.hid h1
  have R2 := Mm.hid h2
  have L1 := Mm.hid l1
  have L2 := Mm.hid l2
  clear h1 h2 l1 l2
  by_cases hW1 : W < 1
  · have fin : Hid (¬ Fairly ps es W) := fun h => by have := h.1; omega
    go_enter Try.func22, Try.ntmps22
    go_wp2
    go_ret
    exact ⟨false, rfl, ⟨fun h => (by cases h), fun h => absurd h fin.out⟩, rfl⟩
  · obtain ⟨Wn, rfl⟩ := Int.eq_ofNat_of_zero_le (show 0 ≤ W by omega)
    have hWn : 1 ≤ Wn := by omega
    go_enter Try.func22, Try.ntmps22
    go_wp2_with fail
    go_loopw [7] (fun i wr => ∃ t : Nat, t ≤ n2 ∧ i = .int .i64 (t : Nat) ∧ wr = w ∧ Hid (∀ (j : Nat) (x : Int), j < t → es[j]? = some x → Ok ps j (eff ps.length x) Wn)) (fun i _ => n2 - (intOf i).toNat)
    case atStart => exact ⟨0, Nat.zero_le _, rfl, rfl, fun j x h => absurd h (Nat.not_lt_zero _)⟩
    case round =>
      obtain ⟨t, ht, rfl, rfl, HT⟩ := hrel
      by_cases hlt : t < n2
      · obtain ⟨x, hx⟩ : ∃ x, es[t]? = some x := ⟨_, List.getElem?_eq_getElem (by rw [L2.out]; exact hlt)⟩
        obtain ⟨ad2, rfl, _, f2⟩ := R2.out.cell (iL_get hx)
        have HX := Mm.hid hx
        clear hx
        obtain ⟨E, hE⟩ : ∃ E, eff ps.length x = E := ⟨_, rfl⟩
        have EH := Mm.hid hE
        have hEn : E ≤ n1 := by rw [← hE, ← L1.out]; exact eff_le _ _
        clear hE
        have three : (x < 0 ∧ E = n1) ∨ ((n1 : Int) ≤ x ∧ E = n1) ∨ ∃ e : Nat, x = (e : Int) ∧ E = e + 1 ∧ e < n1 := by
          have := EH.out
          rw [L1.out] at this
          unfold eff at this
          split at this
          · right; right; exact ⟨x.toNat, by omega, by omega, by omega⟩
          · by_cases h : x < 0
            · exact .inl ⟨h, by omega⟩
            · exact .inr (.inl ⟨by omega, by omega⟩)
        obtain ⟨w0, rfl⟩ : ∃ w0 : World, w0 = wr := ⟨_, rfl⟩
        rcases three with ⟨hx0, hEN⟩ | ⟨hx0, hEN⟩ | ⟨e, rfl, rfl, he⟩
        · subst hEN
          go_wp2_with fail
          go_loopw [9] (fun v wr => ∃ a : Nat, a ≤ E + 1 ∧ v = .int .i64 (a : Nat) ∧ wr = w0 ∧ Hid (∀ a', a' < a → a' + Wn ≤ E → anyIn ps t a' (a' + Wn))) (fun v _ => E + 1 - (intOf v).toNat)
          case atStart => exact ⟨0, Nat.zero_le _, rfl, rfl, fun a' h => absurd h (Nat.not_lt_zero _)⟩
          case round =>
            obtain ⟨a, ha, rfl, rfl, HA⟩ := hrel
            by_cases hin : a + Wn ≤ E
            · go_wp2_with fail
              go_loopw [10, 11] (fun b v wq => ∃ (m : Nat) (bb : Bool), a ≤ m ∧ m ≤ a + Wn ∧ v = .int .i64 (m : Nat) ∧ b = .bool bb ∧ wq = wr ∧ Hid (bb = true ↔ anyIn ps t a m)) (fun _ v _ => a + Wn - (intOf v).toNat)
              case atStart => exact ⟨a, false, Nat.le_refl _, by omega, rfl, rfl, rfl, ⟨fun h => (by cases h), fun ⟨j, h1, h2, _⟩ => absurd h2 (by omega)⟩⟩
              case round =>
                obtain ⟨m, bb, hm1, hm2, rfl, rfl, rfl, HB⟩ := hrel
                by_cases hlt2 : m < a + Wn
                · obtain ⟨p, hp⟩ : ∃ p, ps[m]? = some p := ⟨_, List.getElem?_eq_getElem (by rw [L1.out]; omega)⟩
                  obtain ⟨ad1, rfl, _, f1⟩ := R1.out.cell (iL_get hp)
                  have HP := Mm.hid hp
                  clear hp
                  cases bb
                  · by_cases hpt : p = (t : Int)
                    · have hpb : (p == (t : Int)) = true := beq_iff_eq.2 hpt
                      have HN : Hid (true = true ↔ anyIn ps t a (m + 1)) := ⟨fun _ => ⟨m, hm1, Nat.lt_succ_self m, by rw [HP.out, hpt]⟩, fun _ => rfl⟩
                      clear hpt
                      go_wp2
                      go_roundw
                      case rel => exact ⟨m + 1, true, by omega, by omega, by go_num, rfl, trivial, HN.out⟩
                      case measure => simp [intOf] <;> omega
                    · have hpb : (p == (t : Int)) = false := beq_eq_false_iff_ne.2 hpt
                      have HN : Hid (false = true ↔ anyIn ps t a (m + 1)) := ⟨fun h => (by cases h), fun ⟨j, h1, h2, h3⟩ => by
                        by_cases e : j = m
                        · subst e; rw [HP.out] at h3; exact absurd (Option.some.inj h3) hpt
                        · exact HB.out.2 ⟨j, h1, by omega, h3⟩⟩
                      clear hpt
                      go_wp2
                      go_roundw
                      case rel => exact ⟨m + 1, false, by omega, by omega, by go_num, rfl, trivial, HN.out⟩
                      case measure => simp [intOf] <;> omega
                  · have HN : Hid (true = true ↔ anyIn ps t a (m + 1)) := ⟨fun _ => by
                      obtain ⟨j, h1, h2, h3⟩ := HB.out.1 rfl
                      exact ⟨j, h1, by omega, h3⟩, fun _ => rfl⟩
                    go_wp2
                    go_roundw
                    case rel => exact ⟨m + 1, true, by omega, by omega, by go_num, rfl, trivial, HN.out⟩
                    case measure => simp [intOf] <;> omega
                · have hma : m = a + Wn := by omega
                  have HM := Mm.hid hma
                  cases bb
                  · have fin : Hid (¬ Fairly ps es (Wn : Int)) := fun hf => by
                      have h1 := hf.2 t _ HX.out
                      rw [EH.out, Int.toNat_natCast, ok_iff _ _ _ _ (by omega)] at h1
                      have h2 := h1 a hin
                      rw [← HM.out] at h2
                      have := HB.out.2 h2
                      cases this
                    clear hma
                    go_wp2
                    go_ret
                    exact ⟨false, rfl, ⟨fun h => (by cases h), fun h => absurd h fin.out⟩, rfl⟩
                  · have HN : Hid (∀ a', a' < a + 1 → a' + Wn ≤ E → anyIn ps t a' (a' + Wn)) := fun a' h1 h2 => by
                      by_cases e : a' = a
                      · subst e; rw [← HM.out]; exact HB.out.1 rfl
                      · exact HA.out a' (by omega) h2
                    clear hma
                    go_wp2
                    go_roundw
                    case rel => first | exact ⟨a + 1, by omega, by go_num, trivial, HN.out⟩ | exact ⟨a + 1, by omega, by go_num, HN.out⟩
                    case measure => simp [intOf] <;> omega
            · have HN : Hid (∀ (j : Nat) (y : Int), j < t + 1 → es[j]? = some y → Ok ps j (eff ps.length y) Wn) := fun j y hj hy => by
                by_cases e : j = t
                · subst e
                  have := HX.out
                  rw [this] at hy
                  cases hy
                  rw [EH.out, ok_iff _ _ _ _ (by omega)]
                  intro a' h2
                  exact HA.out a' (by omega) h2
                · exact HT.out j y (by omega) hy
              by_cases hae : a < E
              · have hq : (((E : Int) - 1) - (a : Int) + 1 < (Wn : Int)) := by omega
                go_wp2
                go_roundw
                case rel => first | exact ⟨t + 1, by omega, by go_num, trivial, HN.out⟩ | exact ⟨t + 1, by omega, by go_num, HN.out⟩
                case measure => simp [intOf] <;> omega
              · go_wp2
                go_roundw
                case rel => first | exact ⟨t + 1, by omega, by go_num, trivial, HN.out⟩ | exact ⟨t + 1, by omega, by go_num, HN.out⟩
                case measure => simp [intOf] <;> omega
        · subst hEN
          go_wp2_with fail
          go_loopw [9] (fun v wr => ∃ a : Nat, a ≤ E + 1 ∧ v = .int .i64 (a : Nat) ∧ wr = w0 ∧ Hid (∀ a', a' < a → a' + Wn ≤ E → anyIn ps t a' (a' + Wn))) (fun v _ => E + 1 - (intOf v).toNat)
          case atStart => exact ⟨0, Nat.zero_le _, rfl, rfl, fun a' h => absurd h (Nat.not_lt_zero _)⟩
          case round =>
            obtain ⟨a, ha, rfl, rfl, HA⟩ := hrel
            by_cases hin : a + Wn ≤ E
            · go_wp2_with fail
              go_loopw [10, 11] (fun b v wq => ∃ (m : Nat) (bb : Bool), a ≤ m ∧ m ≤ a + Wn ∧ v = .int .i64 (m : Nat) ∧ b = .bool bb ∧ wq = wr ∧ Hid (bb = true ↔ anyIn ps t a m)) (fun _ v _ => a + Wn - (intOf v).toNat)
              case atStart => exact ⟨a, false, Nat.le_refl _, by omega, rfl, rfl, rfl, ⟨fun h => (by cases h), fun ⟨j, h1, h2, _⟩ => absurd h2 (by omega)⟩⟩
              case round =>
                obtain ⟨m, bb, hm1, hm2, rfl, rfl, rfl, HB⟩ := hrel
                by_cases hlt2 : m < a + Wn
                · obtain ⟨p, hp⟩ : ∃ p, ps[m]? = some p := ⟨_, List.getElem?_eq_getElem (by rw [L1.out]; omega)⟩
                  obtain ⟨ad1, rfl, _, f1⟩ := R1.out.cell (iL_get hp)
                  have HP := Mm.hid hp
                  clear hp
                  cases bb
                  · by_cases hpt : p = (t : Int)
                    · have hpb : (p == (t : Int)) = true := beq_iff_eq.2 hpt
                      have HN : Hid (true = true ↔ anyIn ps t a (m + 1)) := ⟨fun _ => ⟨m, hm1, Nat.lt_succ_self m, by rw [HP.out, hpt]⟩, fun _ => rfl⟩
                      clear hpt
                      go_wp2
                      go_roundw
                      case rel => exact ⟨m + 1, true, by omega, by omega, by go_num, rfl, trivial, HN.out⟩
                      case measure => simp [intOf] <;> omega
                    · have hpb : (p == (t : Int)) = false := beq_eq_false_iff_ne.2 hpt
                      have HN : Hid (false = true ↔ anyIn ps t a (m + 1)) := ⟨fun h => (by cases h), fun ⟨j, h1, h2, h3⟩ => by
                        by_cases e : j = m
                        · subst e; rw [HP.out] at h3; exact absurd (Option.some.inj h3) hpt
                        · exact HB.out.2 ⟨j, h1, by omega, h3⟩⟩
                      clear hpt
                      go_wp2
                      go_roundw
                      case rel => exact ⟨m + 1, false, by omega, by omega, by go_num, rfl, trivial, HN.out⟩
                      case measure => simp [intOf] <;> omega
                  · have HN : Hid (true = true ↔ anyIn ps t a (m + 1)) := ⟨fun _ => by
                      obtain ⟨j, h1, h2, h3⟩ := HB.out.1 rfl
                      exact ⟨j, h1, by omega, h3⟩, fun _ => rfl⟩
                    go_wp2
                    go_roundw
                    case rel => exact ⟨m + 1, true, by omega, by omega, by go_num, rfl, trivial, HN.out⟩
                    case measure => simp [intOf] <;> omega
                · have hma : m = a + Wn := by omega
                  have HM := Mm.hid hma
                  cases bb
                  · have fin : Hid (¬ Fairly ps es (Wn : Int)) := fun hf => by
                      have h1 := hf.2 t _ HX.out
                      rw [EH.out, Int.toNat_natCast, ok_iff _ _ _ _ (by omega)] at h1
                      have h2 := h1 a hin
                      rw [← HM.out] at h2
                      have := HB.out.2 h2
                      cases this
                    clear hma
                    go_wp2
                    go_ret
                    exact ⟨false, rfl, ⟨fun h => (by cases h), fun h => absurd h fin.out⟩, rfl⟩
                  · have HN : Hid (∀ a', a' < a + 1 → a' + Wn ≤ E → anyIn ps t a' (a' + Wn)) := fun a' h1 h2 => by
                      by_cases e : a' = a
                      · subst e; rw [← HM.out]; exact HB.out.1 rfl
                      · exact HA.out a' (by omega) h2
                    clear hma
                    go_wp2
                    go_roundw
                    case rel => first | exact ⟨a + 1, by omega, by go_num, trivial, HN.out⟩ | exact ⟨a + 1, by omega, by go_num, HN.out⟩
                    case measure => simp [intOf] <;> omega
            · have HN : Hid (∀ (j : Nat) (y : Int), j < t + 1 → es[j]? = some y → Ok ps j (eff ps.length y) Wn) := fun j y hj hy => by
                by_cases e : j = t
                · subst e
                  have := HX.out
                  rw [this] at hy
                  cases hy
                  rw [EH.out, ok_iff _ _ _ _ (by omega)]
                  intro a' h2
                  exact HA.out a' (by omega) h2
                · exact HT.out j y (by omega) hy
              by_cases hae : a < E
              · have hq : (((E : Int) - 1) - (a : Int) + 1 < (Wn : Int)) := by omega
                go_wp2
                go_roundw
                case rel => first | exact ⟨t + 1, by omega, by go_num, trivial, HN.out⟩ | exact ⟨t + 1, by omega, by go_num, HN.out⟩
                case measure => simp [intOf] <;> omega
              · go_wp2
                go_roundw
                case rel => first | exact ⟨t + 1, by omega, by go_num, trivial, HN.out⟩ | exact ⟨t + 1, by omega, by go_num, HN.out⟩
                case measure => simp [intOf] <;> omega
        · skip
          go_wp2_with fail
          go_loopw [9] (fun v wr => ∃ a : Nat, a ≤ (e + 1) + 1 ∧ v = .int .i64 (a : Nat) ∧ wr = w0 ∧ Hid (∀ a', a' < a → a' + Wn ≤ (e + 1) → anyIn ps t a' (a' + Wn))) (fun v _ => (e + 1) + 1 - (intOf v).toNat)
          case atStart => exact ⟨0, Nat.zero_le _, rfl, rfl, fun a' h => absurd h (Nat.not_lt_zero _)⟩
          case round =>
            obtain ⟨a, ha, rfl, rfl, HA⟩ := hrel
            by_cases hin : a + Wn ≤ (e + 1)
            · go_wp2_with fail
              go_loopw [10, 11] (fun b v wq => ∃ (m : Nat) (bb : Bool), a ≤ m ∧ m ≤ a + Wn ∧ v = .int .i64 (m : Nat) ∧ b = .bool bb ∧ wq = wr ∧ Hid (bb = true ↔ anyIn ps t a m)) (fun _ v _ => a + Wn - (intOf v).toNat)
              case atStart => exact ⟨a, false, Nat.le_refl _, by omega, rfl, rfl, rfl, ⟨fun h => (by cases h), fun ⟨j, h1, h2, _⟩ => absurd h2 (by omega)⟩⟩
              case round =>
                obtain ⟨m, bb, hm1, hm2, rfl, rfl, rfl, HB⟩ := hrel
                by_cases hlt2 : m < a + Wn
                · obtain ⟨p, hp⟩ : ∃ p, ps[m]? = some p := ⟨_, List.getElem?_eq_getElem (by rw [L1.out]; omega)⟩
                  obtain ⟨ad1, rfl, _, f1⟩ := R1.out.cell (iL_get hp)
                  have HP := Mm.hid hp
                  clear hp
                  cases bb
                  · by_cases hpt : p = (t : Int)
                    · have hpb : (p == (t : Int)) = true := beq_iff_eq.2 hpt
                      have HN : Hid (true = true ↔ anyIn ps t a (m + 1)) := ⟨fun _ => ⟨m, hm1, Nat.lt_succ_self m, by rw [HP.out, hpt]⟩, fun _ => rfl⟩
                      clear hpt
                      go_wp2
                      go_roundw
                      case rel => exact ⟨m + 1, true, by omega, by omega, by go_num, rfl, trivial, HN.out⟩
                      case measure => simp [intOf] <;> omega
                    · have hpb : (p == (t : Int)) = false := beq_eq_false_iff_ne.2 hpt
                      have HN : Hid (false = true ↔ anyIn ps t a (m + 1)) := ⟨fun h => (by cases h), fun ⟨j, h1, h2, h3⟩ => by
                        by_cases e : j = m
                        · subst e; rw [HP.out] at h3; exact absurd (Option.some.inj h3) hpt
                        · exact HB.out.2 ⟨j, h1, by omega, h3⟩⟩
                      clear hpt
                      go_wp2
                      go_roundw
                      case rel => exact ⟨m + 1, false, by omega, by omega, by go_num, rfl, trivial, HN.out⟩
                      case measure => simp [intOf] <;> omega
                  · have HN : Hid (true = true ↔ anyIn ps t a (m + 1)) := ⟨fun _ => by
                      obtain ⟨j, h1, h2, h3⟩ := HB.out.1 rfl
                      exact ⟨j, h1, by omega, h3⟩, fun _ => rfl⟩
                    go_wp2
                    go_roundw
                    case rel => exact ⟨m + 1, true, by omega, by omega, by go_num, rfl, trivial, HN.out⟩
                    case measure => simp [intOf] <;> omega
                · have hma : m = a + Wn := by omega
                  have HM := Mm.hid hma
                  cases bb
                  · have fin : Hid (¬ Fairly ps es (Wn : Int)) := fun hf => by
                      have h1 := hf.2 t _ HX.out
                      rw [EH.out, Int.toNat_natCast, ok_iff _ _ _ _ (by omega)] at h1
                      have h2 := h1 a hin
                      rw [← HM.out] at h2
                      have := HB.out.2 h2
                      cases this
                    clear hma
                    go_wp2
                    go_ret
                    exact ⟨false, rfl, ⟨fun h => (by cases h), fun h => absurd h fin.out⟩, rfl⟩
                  · have HN : Hid (∀ a', a' < a + 1 → a' + Wn ≤ (e + 1) → anyIn ps t a' (a' + Wn)) := fun a' h1 h2 => by
                      by_cases e : a' = a
                      · subst e; rw [← HM.out]; exact HB.out.1 rfl
                      · exact HA.out a' (by omega) h2
                    clear hma
                    go_wp2
                    go_roundw
                    case rel => first | exact ⟨a + 1, by omega, by go_num, trivial, HN.out⟩ | exact ⟨a + 1, by omega, by go_num, HN.out⟩
                    case measure => simp [intOf] <;> omega
            · have HN : Hid (∀ (j : Nat) (y : Int), j < t + 1 → es[j]? = some y → Ok ps j (eff ps.length y) Wn) := fun j y hj hy => by
                by_cases e : j = t
                · subst e
                  have := HX.out
                  rw [this] at hy
                  cases hy
                  rw [EH.out, ok_iff _ _ _ _ (by omega)]
                  intro a' h2
                  exact HA.out a' (by omega) h2
                · exact HT.out j y (by omega) hy
              by_cases hae : a < (e + 1)
              · have hq : ((e : Int) - (a : Int) + 1 < (Wn : Int)) := by omega
                go_wp2
                go_roundw
                case rel => first | exact ⟨t + 1, by omega, by go_num, trivial, HN.out⟩ | exact ⟨t + 1, by omega, by go_num, HN.out⟩
                case measure => simp [intOf] <;> omega
              · go_wp2
                go_roundw
                case rel => first | exact ⟨t + 1, by omega, by go_num, trivial, HN.out⟩ | exact ⟨t + 1, by omega, by go_num, HN.out⟩
                case measure => simp [intOf] <;> omega
      · go_wp2
        go_ret
        refine ⟨true, rfl, ⟨fun _ => ⟨by omega, fun j x hx => ?_⟩, fun _ => rfl⟩, rfl⟩
        rw [Int.toNat_natCast]
        refine HT.out j x ?_ hx
        have := (List.getElem?_eq_some_iff.1 hx).1
        have := L2.out
        omega
end Go.Proofs.Ytecppnkfnppmoaa

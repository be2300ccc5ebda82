/- Picks in turn: the plain law. -/
import Derived.Test.YtecppnkfnppmoaaFairW
import Derived.Test.YtecppnkfnppmoaaRoundW
namespace Go.Proofs.Ytecppnkfnppmoaa
open Go.Fly
theorem rndL_at {a n i : Nat} (h : i < n) : (rndL a n)[i]? = some ((i % a : Nat) : Int) := by simp [rndL, h]
theorem eff_neg (n : Nat) : eff n (-1) = n := by simp [eff]
theorem rep_at {a t : Nat} {x : Int} (h : (List.replicate a (-1 : Int))[t]? = some x) : t < a ∧ x = -1 := by
  rw [List.getElem?_replicate] at h
  split at h
  · injection h with h; exact ⟨by assumption, h.symm⟩
  · cases h
theorem fair_turns (a n : Nat) (h1 : 1 ≤ a) : Fairly (rndL a n) (List.replicate a (-1)) (a : Int) := by
  refine ⟨by omega, fun t x hx => ?_⟩
  obtain ⟨ht, rfl⟩ := rep_at hx
  rw [eff_neg, rndL_len, Int.toNat_natCast, ok_iff _ _ _ _ h1]
  intro s hs
  have hm := Nat.mod_lt s (show 0 < a by omega)
  have hd := Nat.div_add_mod s a
  have key : ∀ j q, j = t + a * q → j < n → (rndL a n)[j]? = some ((t : Nat) : Int) := fun j q hj hn => by
    rw [rndL_at hn, hj, Nat.add_mul_mod_self_left, Nat.mod_eq_of_lt ht]
  rcases Nat.lt_or_ge t (s % a) with h | h
  · refine ⟨s + (t + a - s % a), by omega, by omega, key _ (s / a + 1) ?_ (by omega)⟩
    rw [Nat.mul_add]; omega
  · exact ⟨s + (t - s % a), by omega, by omega, key _ (s / a) (by omega) (by omega)⟩
theorem not_fair_turns (a n : Nat) (hn : a ≤ n) : ¬ Fairly (rndL a n) (List.replicate a (-1)) ((a : Int) - 1) := by
  rintro ⟨h2, h⟩
  have hx : (List.replicate a (-1 : Int))[a - 1]? = some (-1) := by rw [List.getElem?_replicate, if_pos (by omega)]
  have hk := h (a - 1) (-1) hx
  rw [eff_neg, rndL_len, show ((a : Int) - 1).toNat = a - 1 by omega, ok_iff _ _ _ _ (by omega)] at hk
  obtain ⟨j, _, hj, e⟩ := hk 0 (by omega)
  rw [rndL_at (by omega), Nat.mod_eq_of_lt (by omega)] at e
  injection e with e
  omega
end Go.Proofs.Ytecppnkfnppmoaa

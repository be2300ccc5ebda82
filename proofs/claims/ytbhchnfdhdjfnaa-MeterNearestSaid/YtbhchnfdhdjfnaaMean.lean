/- Walks: what Mean gives on both sides: the mean and the spread by one fold, but for the choice of a NaN. -/
import Derived.Test.YtbhchnfdhdjfnaaDya
namespace Go.Proofs.Ytbhchnfdhdjfnaa
open Go.RowKit
/-- the operation with one NaN chosen -/
def fo (op : BinOp) (x y : Nat) : Nat := (floatBits op .f64 x y).getD 9221120237041090561
theorem canon_fo (op : BinOp) (x y : Nat) : canon (fo op x y) = floatBits op .f64 x y := by
  unfold fo
  cases h : floatBits op .f64 x y with
  | some r => exact floatBits_canon h
  | none => exact by decide
theorem fo_sm {op : BinOp} {x x' y y' : Nat} (hx : Sm x x') (hy : Sm y y') (w : World) : Sm (fres op x y w) (fo op x' y') := by
  unfold Sm
  rw [canon_fres, canon_fo, hx.bits hy]
/-- a slice of floats that reads as a list -/
def RdF (w : World) (A : Option Addr) (n : Nat) (xs : List Nat) : Prop :=
  xs.length = n ∧ n ≤ 9223372036854775807 ∧ (0 < n → ∃ ad, A = some ad ∧ ∀ j, j < n → w.cell? (ad.add j) = some (.float .f64 (xs.getD j 0)))
def sumTo (xs : List Nat) (k : Nat) : Nat := (xs.take k).foldl (fo .add) 0
def meanOf (xs : List Nat) : Nat := fo .quo (sumTo xs xs.length) (floatOfInt .f64 xs.length)
def offTo (xs : List Nat) (k : Nat) : Nat := (xs.take k).foldl (fun s x => fo .add s (fo .mul (fo .sub x (meanOf xs)) (fo .sub x (meanOf xs)))) 0
def spreadOf (xs : List Nat) : Nat := fo .quo (offTo xs xs.length) (floatOfInt .f64 xs.length)
theorem sumTo_succ (xs : List Nat) (k : Nat) (h : k < xs.length) : sumTo xs (k + 1) = fo .add (sumTo xs k) (xs.getD k 0) := by
  unfold sumTo
  rw [List.take_succ_eq_append_getElem h, List.foldl_append]
  simp [List.getD_eq_getElem?_getD, h]
theorem offTo_succ (xs : List Nat) (k : Nat) (h : k < xs.length) : offTo xs (k + 1) = fo .add (offTo xs k) (fo .mul (fo .sub (xs.getD k 0) (meanOf xs)) (fo .sub (xs.getD k 0) (meanOf xs))) := by
  unfold offTo
  rw [List.take_succ_eq_append_getElem h, List.foldl_append]
  simp [List.getD_eq_getElem?_getD, h]
def MeanEnds (xs : List Nat) (w : World) (e : Ending) (w' : World) : Prop :=
  ∃ a b n, e = .returned (.tuple #[.float .f64 a, .float .f64 b]) ∧ w' = w.drewN n ∧ (xs = [] → a = 0 ∧ b = 0) ∧ (xs ≠ [] → Sm a (meanOf xs) ∧ Sm b (spreadOf xs))
set_option maxHeartbeats 400000 in
theorem mean_any (A : Option Addr) (n c : Nat) (xs : List Nat) (w : World) (h : RdF w A n xs) :
    Calls Try.prog 25 #[.slice A n c] w (MeanEnds xs w) := by
  obtain ⟨hl, hm, hr⟩ := h
  by_cases h0 : n = 0
  · subst h0
    obtain rfl : xs = [] := List.eq_nil_of_length_eq_zero hl
    go_enter Try.func25, Try.ntmps25
    go_wp2
    go_ret2
    exact ⟨0, 0, 0, rfl, rfl, fun _ => ⟨rfl, rfl⟩, fun h => absurd rfl h⟩
  · obtain ⟨ad, rfl, hc⟩ := hr (by omega)
    have hne : xs ≠ [] := by rintro rfl; exact h0 hl.symm
    have h0' : ((n : Int) == 0) = false := by simp; omega
    have Hne := hid hne
    have Hl := hid hl
    have Hc := hid hc
    clear hl hr hne h0 hc
    go_enter Try.func25, Try.ntmps25
    go_wp2
    go_loopw [5, 7, 21] (fun s x i wr => ∃ k sv m, k ≤ n ∧ i = .int .i64 (k : Nat) ∧ s = .float .f64 sv ∧ Hid (Sm sv (sumTo xs k)) ∧ wr = w.drewN m) (fun _ _ i _ => n - (intOf i).toNat)
    case atStart => exact ⟨0, 0, 0, Nat.zero_le _, rfl, rfl, rfl, rfl⟩
    case round =>
      obtain ⟨k, sv, m, hk, rfl, rfl, hs, rfl⟩ := hrel
      have hcell : k < n → w.cell? (ad.add k) = some (.float .f64 (xs.getD k 0)) := fun hk => Hc.out k hk
      by_cases hlt : k < n
      · go_wp2
        go_roundw
        case rel => exact ⟨k + 1, _, _, by omega, by go_num, rfl, by rw [sumTo_succ xs k (by have := Hl.out; omega)]; exact fo_sm hs.out (Sm.refl _) _, rfl⟩
        case measure => simp [intOf]; omega
      · have hkn : Hid (k = n) := by unfold Hid; omega
        go_wp2
        have hmean : Hid (Sm (fres .quo sv (floatOfInt .f64 (n : Int)) (w.drewN m)) (meanOf xs)) := by
          unfold meanOf; rw [Hl.out]; have := hs.out; rw [hkn.out] at this; exact fo_sm this (Sm.refl _) _
        generalize fres .quo sv (floatOfInt .f64 (n : Int)) (w.drewN m) = mv at *
        generalize m + fdn .quo sv (floatOfInt .f64 (n : Int)) = m1 at *
        clear hcell hlt
        go_loopw [9, 11, 12, 34] (fun s x y i wr => ∃ k sv m, k ≤ n ∧ i = .int .i64 (k : Nat) ∧ s = .float .f64 sv ∧ Hid (Sm sv (offTo xs k)) ∧ wr = w.drewN m) (fun _ _ _ i _ => n - (intOf i).toNat)
        case atStart => exact ⟨0, 0, m1, Nat.zero_le _, rfl, rfl, rfl, rfl⟩
        case round =>
          obtain ⟨k, sv, m, hk, rfl, rfl, hs, rfl⟩ := hrel
          have hcell : k < n → w.cell? (ad.add k) = some (.float .f64 (xs.getD k 0)) := fun hk => Hc.out k hk
          by_cases hlt : k < n
          · go_wp2
            go_roundw
            case rel => exact ⟨k + 1, _, _, by omega, by go_num, rfl, by rw [offTo_succ xs k (by have := Hl.out; omega)]; exact fo_sm hs.out (Sm.fres (Sm.fres (Sm.refl _) hmean.out _ _) (Sm.fres (Sm.refl _) hmean.out _ _) _ _ |>.trans (fo_sm (fo_sm (Sm.refl _) (Sm.refl _) w) (fo_sm (Sm.refl _) (Sm.refl _) w) w)) _, rfl⟩
            case measure => simp [intOf]; omega
          · have hkn : Hid (k = n) := by unfold Hid; omega
            go_wp2
            go_ret2
            exact ⟨_, _, _, rfl, rfl, fun h => absurd h Hne.out, fun _ => ⟨hmean.out, by unfold spreadOf; rw [Hl.out]; have := hs.out; rw [hkn.out] at this; exact fo_sm this (Sm.refl _) _⟩⟩
set_option maxHeartbeats 400000 in
theorem rmean_any (A : Option Addr) (n c : Nat) (xs : List Nat) (w : World) (h : RdF w A n xs) :
    Calls Try.prog 26 #[.slice A n c] w (MeanEnds xs w) := by
  obtain ⟨hl, hm, hr⟩ := h
  by_cases h0 : n = 0
  · subst h0
    obtain rfl : xs = [] := List.eq_nil_of_length_eq_zero hl
    go_enter Try.func26, Try.ntmps26
    go_wp2
    go_ret2
    exact ⟨0, 0, 0, rfl, rfl, fun _ => ⟨rfl, rfl⟩, fun h => absurd rfl h⟩
  · obtain ⟨ad, rfl, hc⟩ := hr (by omega)
    have hne : xs ≠ [] := by rintro rfl; exact h0 hl.symm
    have h0' : ((n : Int) == 0) = false := by simp; omega
    have Hne := hid hne
    have Hl := hid hl
    have Hc := hid hc
    clear hl hr hne h0 hc
    go_enter Try.func26, Try.ntmps26
    go_wp2
    go_loopw [4, 5] (fun s i wr => ∃ k sv m, k ≤ n ∧ i = .int .i64 (k : Nat) ∧ s = .float .f64 sv ∧ Hid (Sm sv (sumTo xs k)) ∧ wr = w.drewN m) (fun _ i _ => n - (intOf i).toNat)
    case atStart => exact ⟨0, 0, 0, Nat.zero_le _, rfl, rfl, rfl, rfl⟩
    case round =>
      obtain ⟨k, sv, m, hk, rfl, rfl, hs, rfl⟩ := hrel
      have hcell : k < n → w.cell? (ad.add k) = some (.float .f64 (xs.getD k 0)) := fun hk => Hc.out k hk
      by_cases hlt : k < n
      · go_wp2
        go_roundw
        case rel => exact ⟨k + 1, _, _, by omega, by go_num, rfl, by rw [sumTo_succ xs k (by have := Hl.out; omega)]; exact fo_sm hs.out (Sm.refl _) _, rfl⟩
        case measure => simp [intOf]; omega
      · have hkn : Hid (k = n) := by unfold Hid; omega
        go_wp2
        have hmean : Hid (Sm (fres .quo sv (floatOfInt .f64 (n : Int)) (w.drewN m)) (meanOf xs)) := by
          unfold meanOf; rw [Hl.out]; have := hs.out; rw [hkn.out] at this; exact fo_sm this (Sm.refl _) _
        generalize fres .quo sv (floatOfInt .f64 (n : Int)) (w.drewN m) = mv at *
        generalize m + fdn .quo sv (floatOfInt .f64 (n : Int)) = m1 at *
        clear hcell hlt
        go_loopw [4, 7, 8, 9] (fun s i x y wr => ∃ k sv m, k ≤ n ∧ i = .int .i64 (k : Nat) ∧ s = .float .f64 sv ∧ Hid (Sm sv (offTo xs k)) ∧ wr = w.drewN m) (fun _ i _ _ _ => n - (intOf i).toNat)
        case atStart => exact ⟨0, 0, m1, Nat.zero_le _, rfl, rfl, rfl, rfl⟩
        case round =>
          obtain ⟨k, sv, m, hk, rfl, rfl, hs, rfl⟩ := hrel
          have hcell : k < n → w.cell? (ad.add k) = some (.float .f64 (xs.getD k 0)) := fun hk => Hc.out k hk
          by_cases hlt : k < n
          · go_wp2
            go_roundw
            case rel => exact ⟨k + 1, _, _, by omega, by go_num, rfl, by rw [offTo_succ xs k (by have := Hl.out; omega)]; exact fo_sm hs.out (Sm.fres (Sm.fres (Sm.refl _) hmean.out _ _) (Sm.fres (Sm.refl _) hmean.out _ _) _ _ |>.trans (fo_sm (fo_sm (Sm.refl _) (Sm.refl _) w) (fo_sm (Sm.refl _) (Sm.refl _) w) w)) _, rfl⟩
            case measure => simp [intOf]; omega
          · have hkn : Hid (k = n) := by unfold Hid; omega
            go_wp2
            go_ret2
            exact ⟨_, _, _, rfl, rfl, fun h => absurd h Hne.out, fun _ => ⟨hmean.out, by unfold spreadOf; rw [Hl.out]; have := hs.out; rw [hkn.out] at this; exact fo_sm this (Sm.refl _) _⟩⟩
end Go.Proofs.Ytbhchnfdhdjfnaa

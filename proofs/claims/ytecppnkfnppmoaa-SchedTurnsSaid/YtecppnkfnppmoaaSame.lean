/- Walks: two lists of numbers, the same? -/
import Derived.Test.YtecppnkfnppmoaaProg
import Derived.Test.YtecppnkfnppmoaaMo
import Derived.BigQuiet
import Derived.Deep.QuietTactic
import Derived.Outline
namespace Go.Proofs.Ytecppnkfnppmoaa
open Go.RowKit Go.Mm
theorem drew_zero (w : World) : w = w.drewN 0 := rfl
theorem take_same {α : Type} {xs ys : List α} {k : Nat} {x : α} (h : xs.take k = ys.take k) (hx : xs[k]? = some x) (hy : ys[k]? = some x) : xs.take (k + 1) = ys.take (k + 1) := by
  rw [List.take_add_one, List.take_add_one, h, hx, hy]
def SameEnds (b : Bool) (w : World) (e : Ending) (w' : World) : Prop := e = .returned (.bool b) ∧ ∃ d, w' = w.drewN d
theorem Rd.drewN {w : World} {A : Option Addr} {n sz k : Nat} {xs : List Value} (h : Rd w A n sz xs) : Rd (w.drewN k) A n sz xs := h.keep (Nat.le_refl _) fun _ _ _ => rfl
set_option maxHeartbeats 1000000 in
theorem same_any (A1 : Option Addr) (n1 c1 : Nat) (A2 : Option Addr) (n2 c2 : Nat) (xs ys : List Int) (w : World) (h1 : Rd w A1 n1 1 (iL xs)) (h2 : Rd w A2 n2 1 (iL ys)) (hc1 : n1 ≤ c1) (hc2 : n2 ≤ c2) (hb : n1 ≤ 4611686018427387904) :
    Calls Try.prog 16 #[.slice A1 n1 c1, .slice A2 n2 c2] w (SameEnds (decide (xs = ys)) w) := by
  have l1 : xs.length = n1 := by have := h1.1; rw [iL_len] at this; omega
  have l2 : ys.length = n2 := by have := h2.1; rw [iL_len] at this; omega
  have R1 := Mm.hid h1
  have R2 := Mm.hid h2
  clear h1 h2
  by_cases hn : n1 = n2
  · subst hn
    have L1 := Mm.hid l1
    have L2 := Mm.hid l2
    clear l1 l2
    go_enter Try.func16, Try.ntmps16
    go_wp2_with fail
    go_loopw [5] (fun i wr => ∃ (k d : Nat), k ≤ n1 ∧ i = .int .i64 (k : Nat) ∧ Hid (xs.take k = ys.take k) ∧ wr = w.drewN d) (fun i _ => n1 - (intOf i).toNat)
    case atStart => exact ⟨0, 0, Nat.zero_le _, rfl, by simp [Hid], rfl⟩
    case round =>
      obtain ⟨k, d, hk, rfl, HT, rfl⟩ := hrel
      by_cases hlt : k < n1
      · obtain ⟨x, hx⟩ : ∃ x, xs[k]? = some x := ⟨_, List.getElem?_eq_getElem (by rw [L1.out]; exact hlt)⟩
        obtain ⟨y, hy⟩ : ∃ x, ys[k]? = some x := ⟨_, List.getElem?_eq_getElem (by rw [L2.out]; exact hlt)⟩
        obtain ⟨ad1, rfl, q1, f1⟩ := R1.out.cell (iL_get hx)
        obtain ⟨ad2, rfl, q2, f2⟩ := R2.out.cell (iL_get hy)
        clear q1 q2
        have X := Mm.hid hx
        have Y := Mm.hid hy
        clear hx hy
        by_cases hxy : x = y
        · subst hxy
          have T := Mm.hid (take_same HT.out X.out Y.out)
          go_wp2_with fail
          go_quiet (fail)
          go_wp2
          go_roundw
          case rel => exact ⟨k + 1, _, by omega, by go_num, T, rfl⟩
          case measure => simp [intOf] <;> omega
        · have hne : (x != y) = true := bne_iff_ne.2 hxy
          have fin : Hid (decide (xs = ys) = false) := by
            refine decide_eq_false fun e => hxy ?_
            subst e
            have h1 := X.out; have h2 := Y.out
            rw [h1] at h2; injection h2
          clear hxy
          go_wp2_with fail
          go_quiet (fail)
          go_wp2
          go_ret
          rw [fin.out]
          exact ⟨rfl, _, World.drewN_drewN _ _ _⟩
      · have hkn : k = n1 := by omega
        subst hkn
        have fin : Hid (decide (xs = ys) = true) := by
          refine decide_eq_true ?_
          have h := HT.out
          rwa [List.take_of_length_le (by rw [L1.out]; exact Nat.le_refl _), List.take_of_length_le (by rw [L2.out]; exact Nat.le_refl _)] at h
        go_wp2
        go_ret
        rw [fin.out]
        exact ⟨rfl, _, rfl⟩
  · have hne : ((n1 : Int) != (n2 : Int)) = true := bne_iff_ne.2 (by omega)
    have fin : Hid (decide (xs = ys) = false) := decide_eq_false fun e => hn (by rw [← l1, ← l2, e])
    clear hn l1 l2
    go_enter Try.func16, Try.ntmps16
    go_wp2
    go_ret
    rw [fin.out]
    exact ⟨rfl, 0, rfl⟩
end Go.Proofs.Ytecppnkfnppmoaa

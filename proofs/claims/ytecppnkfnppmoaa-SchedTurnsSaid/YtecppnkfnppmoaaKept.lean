/- Walk: are numbers as they were, and the room behind them? -/
import Derived.Test.YtecppnkfnppmoaaTwin
namespace Go.Proofs.Ytecppnkfnppmoaa
open Go.RowKit Go.Mm
theorem marked_at {xs : List Int} {n j : Nat} (hl : xs.length = n) (h1 : n ≤ j) (h2 : j < n + 24) : (marked xs)[j]? = some (-77) := by
  unfold marked
  rw [List.getElem?_append_right (by omega), List.getElem?_replicate, if_pos (by omega)]
theorem marked_take {xs : List Int} {n : Nat} (hl : xs.length = n) : (marked xs).take n = xs := by
  unfold marked
  rw [List.take_left' hl]
set_option maxHeartbeats 2000000 in
theorem kept_any (base g c : Nat) (A2 : Option Addr) (n c2 : Nat) (xs : List Int) (w : World) (ho : w.ownsRow base 3 1 (.slice (some ⟨g, 0, none⟩) (n + 24) c) (n + 24) (iL (marked xs))) (h2 : Rd w A2 n 1 (iL xs)) (hl : xs.length = n) (hn : n ≤ 17592186043904) (hc : n + 24 ≤ c) (hcm : c ≤ 9223372036854775807) (hc2 : n ≤ c2) :
    Calls Try.prog 25 #[.slice (some ⟨g, 0, none⟩) n c, .slice A2 n c2] w (SameEnds true w) := by
  have R2 := Mm.hid h2
  have L := Mm.hid hl
  have O := Mm.hid ho
  have R1 : Hid (Rd w (some ⟨g, 0, none⟩) n 1 (iL xs)) := Rd.prefix ho (by rw [iL_take, marked_take hl]) (by omega)
  obtain ⟨g', cap', hv, _, _, _, hcell, _⟩ := own_blk ho (by omega)
  injection hv with e1 _ _
  injection e1 with e1
  injection e1 with e1
  subst e1
  have HC := Mm.hid hcell
  clear h2 hl ho hcell
  have e24 : ((n : Int) + 24) = ((n + 24 : Nat) : Int) := by omega
  have E24 := Mm.hid e24
  clear e24
  go_enter Try.func25, Try.ntmps25
  go_wp2_with fail
  go_loop [6] (fun i => ∃ k : Nat, n ≤ k ∧ k ≤ n + 24 ∧ i = .int .i64 (k : Nat)) (fun i => n + 24 - (intOf i).toNat)
  case atStart => exact ⟨n, Nat.le_refl _, by omega, rfl⟩
  case round =>
    obtain ⟨k, hk1, hk2, rfl⟩ := hrel
    by_cases hlt : k < n + 24
    · have f1 : w.cell? ⟨g, k, none⟩ = some (.int .i64 (-77)) := HC.out k _ (iL_get (marked_at L.out hk1 hlt))
      go_wp2
      go_round
      case rel => exact ⟨k + 1, by omega, by omega, by go_num⟩
      case measure => simp [intOf] <;> omega
    · have hk : k = n + 24 := by omega
      subst hk
      go_wp2_with fail
      refine (same_true _ _ _ _ _ _ _ _ R1.out R2.out (by omega) hc2 (by omega)).mono ?_
      rintro e w1 ⟨rfl, d, rfl⟩
      go_wp2
      go_ret
      exact ⟨rfl, d, rfl⟩
end Go.Proofs.Ytecppnkfnppmoaa

/- Walks: numbers in memory of their own, with marked room behind them. -/
import Derived.Test.YtecppnkfnppmoaaApart
namespace Go.Proofs.Ytecppnkfnppmoaa
open Go.RowKit Go.Mm
/-- a list, and behind it the marked room -/
def marked (xs : List Int) : List Int := xs ++ List.replicate 24 (-77)
theorem marked_len (xs : List Int) : (marked xs).length = xs.length + 24 := by simp [marked]
def TwinEnds (xs : List Int) (n : Nat) (w : World) (e : Ending) (w' : World) : Prop := ∃ g c, e = .returned (.slice (some ⟨g, 0, none⟩) n c) ∧ n + 24 ≤ c ∧ c ≤ 9223372036854775807 ∧ Hid (w.heap.size ≤ g ∧ w'.ownsRow w.heap.size 3 1 (.slice (some ⟨g, 0, none⟩) (n + 24) c) (n + 24) (iL (marked xs)) ∧ Below w.heap.size w w')
set_option maxHeartbeats 2000000 in
theorem twin_any (A : Option Addr) (n c : Nat) (xs : List Int) (w : World) (h : Rd w A n 1 (iL xs)) (hl : xs.length = n) (hn : n ≤ 17592186043904) (_ : n ≤ c) :
    Calls Try.prog 23 #[.slice A n c] w (TwinEnds xs n w) := by
  have R := Mm.hid h
  have L := Mm.hid hl
  clear h hl
  have nil : w.ownsRow w.heap.size 3 1 (.slice none 0 0) 0 [] := ⟨by simp, .inl ⟨rfl, rfl⟩⟩
  have NIL := Mm.hid nil
  clear nil
  go_enter Try.func23, Try.ntmps23
  go_wp2_with (at_builtin; go_must (refine wp_ape w.heap.size rfl (.tmp 5) (.tmp 6) 22 3 (.int .i64 0) 1 8 rfl Try.underlying22 info3 rfl (by decide) (by decide) (.slice none 0 0) 0 [] A n c (iL xs) rfl rfl (by exact R.out) (iL_one xs) (by exact NIL.out) (Below.refl _ _) (Nat.le_refl _) (by omega) ?_))
  intro v1 w1 k1 k2 k3 k4
  have O0 : Hid (w1.ownsRow w.heap.size 3 1 v1 (n + 0) (iL (xs ++ List.replicate 0 (-77))) ∧ Below w.heap.size w w1) := by
    refine ⟨?_, k2⟩
    simpa using k1
  clear k1 k2 k3 k4
  go_wp2_with fail
  go_loopw [3, 4] (fun v i wr => ∃ k : Nat, k ≤ 24 ∧ i = .int .i64 (k : Nat) ∧ Hid (wr.ownsRow w.heap.size 3 1 v (n + k) (iL (xs ++ List.replicate k (-77))) ∧ Below w.heap.size w wr)) (fun _ i _ => 24 - (intOf i).toNat)
  case atStart => exact ⟨0, by omega, rfl, O0.out⟩
  case round =>
    obtain ⟨k, hk, rfl, HK⟩ := hrel
    clear O0
    have hsz := HK.out.2.size
    by_cases hlt : k < 24
    · have hone : ∀ u ∈ (#[Value.int .i64 (-77)] : Array Value).toList, u.oneCell' = true := by simp; rfl
      have HO := Mm.hid hone
      clear hone
      go_wp2_with (at_builtin; go_must (refine wp_ape1 w.heap.size rfl (.tmp 12) (.tmp 13) 22 3 (.int .i64 0) 1 8 #[.int .i64 (-77)] rfl Try.underlying22 info3 rfl (by decide) (by decide) u3 (n + k) _ rfl rfl rfl HO.out (by exact HK.out.1) HK.out.2 hsz (by omega) ?_))
      intro v1 w1 k1 k2 k3 k4
      have FN : Hid (w1.ownsRow w.heap.size 3 1 v1 (n + (k + 1)) (iL (xs ++ List.replicate (k + 1) (-77))) ∧ Below w.heap.size w w1) := by
        refine ⟨?_, k2⟩
        rw [List.replicate_succ', ← List.append_assoc, ← iL_snoc]
        exact k1
      clear k1 k2 k3 k4
      go_wp2
      go_roundw
      case rel => exact ⟨k + 1, by omega, by go_num, FN.out⟩
      case measure => simp [intOf] <;> omega
    · have hk24 : k = 24 := by omega
      subst hk24
      obtain ⟨g, cap, hv, hc, hg, _, _, _⟩ := own_blk HK.out.1 (by omega)
      subst hv
      have hcm : cap ≤ 9223372036854775807 := by
        rcases HK.out.1.2 with ⟨h0, _⟩ | ⟨g', cap', cur, hv, _, _, _, hm, _⟩
        · cases h0
        · injection hv with _ _ e3
          subst e3
          simpa [maxLen] using hm
      have FIN : Hid (w.heap.size ≤ g ∧ wr.ownsRow w.heap.size 3 1 (.slice (some ⟨g, 0, none⟩) (n + 24) cap) (n + 24) (iL (marked xs)) ∧ Below w.heap.size w wr) := ⟨hg, HK.out.1, HK.out.2⟩
      go_wp2
      go_ret
      exact ⟨g, cap, rfl, hc, hcm, FIN.out⟩
end Go.Proofs.Ytecppnkfnppmoaa

/- Walks: four words of a set. -/
import Derived.Test.YtdfdicmbfgkekaaSets
import Derived.Laws.Cover3
namespace Go.Proofs.Ytdfdicmbfgkekaa
open Go.RowKit Go.Mm Go.Bs
def four (S : Nat → Bool) (k : Nat) : Value := .agg #[wv S (4 * k), wv S (4 * k + 1), wv S (4 * k + 2), wv S (4 * k + 3)]
def four0 : Value := .agg #[.int .u64 0, .int .u64 0, .int .u64 0, .int .u64 0]
def quadV (r : Nat) (S : Nat → Bool) (k : Int) : Value := if 0 ≤ k ∧ k < ((r + 255) / 256 : Nat) then .tuple #[four S k.toNat, .bool true] else .tuple #[four0, .bool false]
set_option maxHeartbeats 1000000 in
theorem quad_any (a g r : Nat) (S : Nat → Bool) (k : Int) (w : World) (h : SetB w a g r S) : Calls Try.prog 36 #[.pointer (some ⟨a, 0, none⟩), .int .i64 k] w fun e w' => e = .returned (quadV r S k) ∧ Below w.heap.size w w' := by
  have c1 : w.cell? ⟨a, 1, none⟩ = some (.slice (some ⟨g, 0, none⟩) (nw r) (nw r)) := h.st.cell 1
  have hm := h.most
  have hnw := nw_le r hm
  have la := h.st.lt
  have lg := h.ws.lt
  have hq : nw r / 4 = (r + 255) / 256 := by unfold nw; omega
  have hq4 : nw r = (r + 255) / 256 * 4 := rfl
  obtain ⟨n, hn⟩ : ∃ n, nw r = n := ⟨_, rfl⟩
  rw [hn] at c1 hnw hq hq4
  by_cases h0 : 0 ≤ k ∧ k < ((r + 255) / 256 : Nat)
  · have e : quadV r S k = .tuple #[four S k.toNat, .bool true] := if_pos h0
    rw [e]
    obtain ⟨h1, h2⟩ := h0
    obtain ⟨k, rfl⟩ := Int.eq_ofNat_of_zero_le h1
    simp only [Int.toNat_natCast]
    have h3 : k < n / 4 := by omega
    have k0 : w.cell? ⟨g, 4 * k, none⟩ = some (.int .u64 ((word S (4 * k) : Nat) : Int)) := (h.ws.cell _).trans (wcells_get (by omega))
    have k1 : w.cell? ⟨g, 4 * k + 1, none⟩ = some (.int .u64 ((word S (4 * k + 1) : Nat) : Int)) := (h.ws.cell _).trans (wcells_get (by omega))
    have k2 : w.cell? ⟨g, 4 * k + 2, none⟩ = some (.int .u64 ((word S (4 * k + 2) : Nat) : Int)) := (h.ws.cell _).trans (wcells_get (by omega))
    have k3 : w.cell? ⟨g, 4 * k + 3, none⟩ = some (.int .u64 ((word S (4 * k + 3) : Nat) : Int)) := (h.ws.cell _).trans (wcells_get (by omega))
    have h4 : 4 * k + 4 ≤ n := by omega
    have h5 : (k : Int) < (n : Int) / 4 := by omega
    have hat : ∀ w, (Instr.arrayAt 64 (.slice (some ⟨g, 4 * k, none⟩) (n - 4 * k) (n - 4 * k))).run Try.prog w = .ok (.pointer (some ⟨g, 4 * k, none⟩)) w := fun w => run_arrayAt w 64 _ 4 _ _ _ Try.underlying64 (by omega)
    clear h hq hn e hq4 h2
    go_enter Try.func36, Try.ntmps36
    go_wp2
    exact bodyPost_ret (v := .tuple #[four S k, .bool true]) (by simp [results, Try.results36, go_sem, four, wv]) rfl ⟨rfl, (Below.refl _ _).alloc (Nat.le_refl _) _⟩
  · have e : quadV r S k = .tuple #[four0, .bool false] := if_neg h0
    rw [e]
    clear e
    by_cases h1 : k < 0
    · clear h0 h hn hq hq4
      go_enter Try.func36, Try.ntmps36
      go_wp2
      exact bodyPost_ret (v := .tuple #[four0, .bool false]) (by simp [results, Try.results36, go_sem, four0]) rfl ⟨rfl, (Below.refl _ _).alloc (Nat.le_refl _) _⟩
    · have h2 : (n : Int) / 4 ≤ k := by omega
      clear h0 h hn hq hq4
      go_enter Try.func36, Try.ntmps36
      go_wp2
      exact bodyPost_ret (v := .tuple #[four0, .bool false]) (by simp [results, Try.results36, go_sem, four0]) rfl ⟨rfl, (Below.refl _ _).alloc (Nat.le_refl _) _⟩
end Go.Proofs.Ytdfdicmbfgkekaa

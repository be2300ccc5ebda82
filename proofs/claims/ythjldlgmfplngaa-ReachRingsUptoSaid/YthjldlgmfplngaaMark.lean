/- Walk: a mark for the list of a number. -/
import Derived.Test.YthjldlgmfplngaaTwin
namespace Go.Proofs.Ythjldlgmfplngaa
open Go.RowKit Go.Mm Go.Maps Go.Reach Go.WideMaps
def mk (s : ByteArray) : Nat → ByteArray
  | 0 => s
  | k + 1 => mk s k ++ ⟨#[43]⟩
theorem mk_size (s : ByteArray) (k : Nat) : (mk s k).size = s.size + k := by
  induction k with
  | zero => rfl
  | succ k ih => rw [mk, ByteArray.size_append, ih]; rfl
def MarkE (n : Nat) (s : ByteArray) (w : World) (e : Ending) (w' : World) : Prop := e = .returned (.string (mk s (n + 1))) ∧ w' = w
set_option maxRecDepth 100000 in
set_option maxHeartbeats 2000000 in
theorem mark_any (n : Nat) (s : ByteArray) (w : World) (hs : s.size ≤ 100) (hn : n ≤ 1099511627776) :
    Calls Try.prog 48 #[.int .i64 (n : Int), .string s] w (MarkE n s w) := by
  have hpl : (⟨#[43]⟩ : ByteArray).size = 1 := rfl
  go_enter Try.func48, Try.ntmps48
  go_wp2_with fail
  go_loopw [1, 5] (fun v i wr => ∃ k : Nat, k ≤ n + 1 ∧ v = .string (mk s k) ∧ i = .int .i64 (k : Nat) ∧ wr = w) (fun _ i _ => n + 1 - (intOf i).toNat)
  case atStart => exact ⟨0, Nat.zero_le _, rfl, rfl, rfl⟩
  case round =>
    obtain ⟨k, hk, rfl, rfl, hwr⟩ := hrel
    rw [hwr]
    clear hwr
    by_cases hlt : k < n + 1
    · have hsz := mk_size s k
      go_wp2_with fail
      go_roundw
      case rel => exact ⟨k + 1, by omega, rfl, by go_num, trivial⟩
      case measure => simp [intOf] <;> omega
    · have hkn : k = n + 1 := by omega
      subst hkn
      go_wp2_with fail
      go_ret
      exact ⟨rfl, rfl⟩
end Go.Proofs.Ythjldlgmfplngaa

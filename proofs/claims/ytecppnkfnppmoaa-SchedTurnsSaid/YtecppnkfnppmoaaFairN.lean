/- The plain law of fairness: windows and waits. Free of the program. -/
import Derived.Test.YtecppnkfnppmoaaMo
namespace Go.Fly
/-- how long a task has waited behind the first k picks -/
def wt (ps : List Int) (t : Int) : Nat → Nat
  | 0 => 0
  | k + 1 => if ps[k]? = some t then 0 else wt ps t k + 1
theorem wt_le (ps : List Int) (t : Int) : ∀ k, wt ps t k ≤ k
  | 0 => Nat.le_refl _
  | k + 1 => by unfold wt; split; omega; have := wt_le ps t k; omega
/-- nobody of the last so many was the task -/
theorem wt_none (ps : List Int) (t : Int) : ∀ k j, k - wt ps t k ≤ j → j < k → ps[j]? ≠ some t
  | 0, j, _, h => by omega
  | k + 1, j, h, hj => by
    unfold wt at h
    split at h
    · omega
    · rename_i hne
      by_cases hjk : j = k
      · subst hjk; exact hne
      · have := wt_le ps t k
        exact wt_none ps t k j (by omega) (by omega)
theorem wt_ge (ps : List Int) (t : Int) (m : Nat) : ∀ k, (∀ j, k ≤ j → j < k + m → ps[j]? ≠ some t) → m ≤ wt ps t (k + m) := by
  induction m with
  | zero => intro k _; exact Nat.zero_le _
  | succ m ih =>
    intro k h
    have := ih k fun j h1 h2 => h j h1 (by omega)
    rw [show k + (m + 1) = (k + m) + 1 by omega]
    unfold wt
    rw [if_neg (h (k + m) (by omega) (by omega))]
    omega
/-- is the task among the picks from one place to another? -/
def anyIn (ps : List Int) (t : Int) (a b : Nat) : Prop := ∃ j, a ≤ j ∧ j < b ∧ ps[j]? = some t
/-- no wait reaches the window, of the first e picks -/
def Ok (ps : List Int) (t : Int) (e W : Nat) : Prop := ∀ k, k ≤ e → wt ps t k < W
theorem ok_iff (ps : List Int) (t : Int) (e W : Nat) (_ : 1 ≤ W) : Ok ps t e W ↔ ∀ a, a + W ≤ e → anyIn ps t a (a + W) := by
  constructor
  · intro h a ha
    refine Classical.byContradiction fun hno => ?_
    have := wt_ge ps t W a fun j h1 h2 h3 => hno ⟨j, h1, h2, h3⟩
    have := h (a + W) ha
    omega
  · intro h k hk
    refine Classical.byContradiction fun hno => ?_
    have hle := wt_le ps t k
    obtain ⟨j, h1, h2, h3⟩ := h (k - W) (by omega)
    exact wt_none ps t k j (by omega) (by omega) h3
/-- up to where a task's picks count -/
def eff (n : Nat) (x : Int) : Nat := if 0 ≤ x ∧ x < n then x.toNat + 1 else n
def Fairly (ps es : List Int) (W : Int) : Prop := 1 ≤ W ∧ ∀ (t : Nat) (x : Int), es[t]? = some x → Ok ps t (eff ps.length x) W.toNat
theorem eff_le (n : Nat) (x : Int) : eff n x ≤ n := by unfold eff; split <;> omega
theorem ok_succ {ps : List Int} {t : Int} {k W : Nat} (h : ∀ j, j ≤ k → wt ps t j < W) (h2 : wt ps t (k + 1) < W) : ∀ j, j ≤ k + 1 → wt ps t j < W := by
  intro j hj
  by_cases e : j = k + 1
  · subst e; exact h2
  · exact h j (by omega)
end Go.Fly

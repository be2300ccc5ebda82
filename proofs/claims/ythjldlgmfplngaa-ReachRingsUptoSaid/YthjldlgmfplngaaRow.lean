/- Up as a list told, in memory of its own. -/
import Derived.Test.YthjldlgmfplngaaRup
import Derived.Test.YthjldlgmfplngaaApart
namespace Go.Proofs.Ythjldlgmfplngaa
open Go.RowKit Go.Mm Go.Maps Go.Reach Go.WideMaps
/-- the list that is told -/
def upL (ps : List Pr) (x : ByteArray) : List ByteArray := cl (line ps) [x] (all ps x).length
theorem upL_whole (ps : List Pr) (x : ByteArray) : Whole (line ps) [x] (upL ps x) :=
  Whole.exists (by simp) (fun y hy => by rw [List.mem_singleton.1 hy]; exact List.mem_cons_self ..) all_line
theorem upL_len (ps : List Pr) (x : ByteArray) : (upL ps x).length ≤ ps.length + 1 := by
  have := (upL_whole ps x).len (U := all ps x) (by simp) (fun y hy => by rw [List.mem_singleton.1 hy]; exact List.mem_cons_self ..) all_line
  rwa [all_len] at this
/-- a list of names told, in memory of its own -/
def RowE (w : World) (xs : List ByteArray) (e : Ending) (w' : World) : Prop := ∃ A m c, e = .returned (.slice A m c) ∧ m ≤ c ∧ Hid (xs.length = m ∧ w'.ownsRow w.heap.size 9 1 (.slice A m c) m (strs xs) ∧ Below w.heap.size w w')
theorem RowE.of {ps : List Pr} {x : ByteArray} {w w' : World} {e : Ending} (h : UpE ps x w e w') : RowE w (upL ps x) e w' := by
  obtain ⟨v, L, rfl, hw, hr, hf⟩ := h
  have hL := hw.uniq (upL_whole ps x)
  subst hL
  obtain ⟨A, c, rfl, hc, _, _⟩ := own_slice hr
  exact ⟨A, _, c, rfl, hc, rfl, hr, hf.below (fun _ h => h.elim) (Nat.le_refl _)⟩
theorem up_row (ps : List Pr) (x : ByteArray) (A : Option Addr) (N c : Nat) (w : World) (hr : Rd w A N 2 (ps.flatMap fPr)) (hN : ps.length = N) (hs : Szs ps) (hx : x.size ≤ maxLen) (hl : N * 32 + 16 ≤ 140737488355328) :
    Calls Try.prog 28 #[.slice A N c, .string x] w (RowE w (upL ps x)) := (up_any ps x A N c w hr hN hs hx hl).mono fun _ _ h => RowE.of h
theorem rup_row (ps : List Pr) (x : ByteArray) (A : Option Addr) (N c : Nat) (w : World) (hr : Rd w A N 2 (ps.flatMap fPr)) (hN : ps.length = N) (hl : N * 32 + 16 ≤ 140737488355328) :
    Calls Try.prog 18 #[.slice A N c, .string x] w (RowE w (upL ps x)) := (rup_any ps x A N c w hr hN hl).mono fun _ _ h => RowE.of h
end Go.Proofs.Ythjldlgmfplngaa

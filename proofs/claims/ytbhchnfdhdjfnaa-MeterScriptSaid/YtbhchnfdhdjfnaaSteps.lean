/- The steps of a script, opened. -/
import Derived.Test.YtbhchnfdhdjfnaaMeter
import Derived.Test.YtbhchnfdhdjfnaaOpen
namespace Go.Proofs.Ytbhchnfdhdjfnaa
open Go.RowKit Go.Mm
structure Step where
  do_ : Int
  now : Int
  n : Int
def fS (s : Step) : List Value := [.int .i64 s.do_, .int .i64 s.now, .int .i64 s.n]
def gS (s : Step) : Prop := gI s.do_ ∧ gI s.now ∧ gI s.n
section
variable {H : Type} {enc : TypeId × Value → H} {w : World} {b0 : Nat} {spare : Nat → Bool} {held : Bool} {v : Value} {d : DataW H} {ps : List MemPlace} {ts : List TypeId} {ds : List (DataW H)} {j : Nat}
theorem trod_step {n : Nat} {cs : List Value} {x : DataW H × List MemPlace} (h : DataW.trod enc Try.prog w 0 spare held n 60 cs = some x) : ∃ y, fS y = cs ∧ gS y := by
  obtain ⟨xs, k, _, _, hl, hlen, hf⟩ := DataW.trod_struct Try.underlying60 h
  have hc : Try.prog.cellsOf 60 = 3 := by kernel_rfl
  have hc3 : Try.prog.cellsOf 3 = 1 := by kernel_rfl
  rw [hc] at hl
  match cs, hl, xs, hlen, hf with
  | [c0, c1, c2], _, [x0, x1, x2], _, hf =>
    have e0 := hf 0 _ rfl
    have e1 := hf 1 _ rfl
    have e2 := hf 2 _ rfl
    obtain ⟨a, r0, _, w0⟩ := DataW.trod_int Try.underlying3 (show DataW.trod enc Try.prog w 0 spare held k 3 [c0] = some x0 from e0)
    obtain ⟨b, r1, _, w1⟩ := DataW.trod_int Try.underlying3 (show DataW.trod enc Try.prog w 0 spare held k 3 [c1] = some x1 from e1)
    obtain ⟨c, r2, _, w2⟩ := DataW.trod_int Try.underlying3 (show DataW.trod enc Try.prog w 0 spare held k 3 [c2] = some x2 from e2)
    simp only [List.cons.injEq, and_true] at r0 r1 r2
    subst r0; subst r1; subst r2
    exact ⟨⟨a, b, c⟩, rfl, w0, w1, w2⟩
theorem open_steps (hval : Value.okWide Try.prog w .any b0 54 v) (hd : DataW.Trod enc Try.prog w 0 spare held 54 v d ps)
    (hz : (DataW.weightsEach Try.prog ts ds).all (· ≤ reachBytes) = true) (hj : ts[j]? = some 54) (hj' : ds[j]? = some d) :
    ∃ A n c xs, v = .slice A n c ∧ Sl w 3 24 fS gS A n c xs :=
  open_sl fS gS Try.underlying54 (by kernel_rfl) (by decide) (by kernel_rfl) (fun _ _ _ h => trod_step h) hval hd hz hj hj'
end
end Go.Proofs.Ytbhchnfdhdjfnaa

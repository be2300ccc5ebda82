/- Pairs among the arguments, opened. -/
import Derived.Test.YthjldlgmfplngaaRow
import Derived.Test.YthjldlgmfplngaaKept
import Derived.Test.YthjldlgmfplngaaTurned
namespace Go.Proofs.Ythjldlgmfplngaa
open Go.RowKit Go.Mm Go.Maps Go.Reach Go.WideMaps
def gPr (p : Pr) : Prop := p.a.size ≤ maxLen ∧ p.b.size ≤ maxLen
section
variable {H : Type} {enc : TypeId × Value → H} {w : World} {b0 : Nat} {spare : Nat → Bool} {held : Bool} {v : Value} {d : DataW H} {ps : List MemPlace} {ts : List TypeId} {ds : List (DataW H)} {j : Nat}
theorem trod_pr {n : Nat} {cs : List Value} {x : DataW H × List MemPlace} (h : DataW.trod enc Try.prog w 0 spare held n 37 cs = some x) : ∃ y, fPr y = cs ∧ gPr y := by
  obtain ⟨xs, k, _, _, hl, hlen, hf⟩ := DataW.trod_struct Try.underlying37 h
  have hc : Try.prog.cellsOf 37 = 2 := by kernel_rfl
  have hc9 : Try.prog.cellsOf 9 = 1 := by kernel_rfl
  rw [hc] at hl
  match cs, hl, xs, hlen, hf with
  | [c0, c1], _, [x0, x1], _, hf =>
    have e0 := hf 0 _ rfl
    have e1 := hf 1 _ rfl
    obtain ⟨a, r0, _, w0⟩ := DataW.trod_string Try.underlying9 (show DataW.trod enc Try.prog w 0 spare held k 9 [c0] = some x0 from e0)
    obtain ⟨b, r1, _, w1⟩ := DataW.trod_string Try.underlying9 (show DataW.trod enc Try.prog w 0 spare held k 9 [c1] = some x1 from e1)
    simp only [List.cons.injEq, and_true] at r0 r1
    subst r0; subst r1
    exact ⟨⟨a, b⟩, rfl, w0, w1⟩
theorem open_prs (hval : Value.okWide Try.prog w .any b0 32 v) (hd : DataW.Trod enc Try.prog w 0 spare held 32 v d ps)
    (hz : (DataW.weightsEach Try.prog ts ds).all (· ≤ reachBytes) = true) (hj : ts[j]? = some 32) (hj' : ds[j]? = some d) :
    ∃ A n c xs, v = .slice A n c ∧ Sl w 2 32 fPr gPr A n c xs :=
  open_sl fPr gPr Try.underlying32 (by kernel_rfl) (by decide) (by kernel_rfl) (fun _ _ _ h => trod_pr h) hval hd hz hj hj'
end
theorem gPr_szs {ps : List Pr} (h : ∀ p ∈ ps, gPr p) : Szs ps := ⟨fun p hp => (h p hp).1, fun p hp => (h p hp).2⟩
end Go.Proofs.Ythjldlgmfplngaa

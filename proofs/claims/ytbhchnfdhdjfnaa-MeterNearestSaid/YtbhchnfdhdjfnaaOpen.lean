/- The seat's slice arguments opened: floats, whole numbers, steps. -/
import Derived.Test.YtbhchnfdhdjfnaaRows
import Derived.Test.YtbhchnfdhdjfnaaMm
namespace Go.Proofs.Ytbhchnfdhdjfnaa
open Go.RowKit Go.Mm

def fF (x : Nat) : List Value := [.float .f64 x]
def fI (x : Int) : List Value := [.int .i64 x]
def gF (x : Nat) : Prop := (Lit.float .f64 x).wf = true
def gI (x : Int) : Prop := (Lit.int .i64 x).wf = true
section
variable {H : Type} {enc : TypeId × Value → H} {w : World} {b0 : Nat} {spare : Nat → Bool} {held : Bool} {v : Value} {d : DataW H} {ps : List MemPlace} {ts : List TypeId} {ds : List (DataW H)} {j : Nat}
theorem trod_float {n : Nat} {cs : List Value} {x : DataW H × List MemPlace} (h : DataW.trod enc Try.prog w 0 spare held n 22 cs = some x) : ∃ y, fF y = cs ∧ gF y := by
  cases n with
  | zero => simp [DataW.trod] at h
  | succ n =>
    unfold DataW.trod at h
    rw [Try.underlying22] at h
    split at h <;> first | (cases h; done) | skip
    all_goals rename_i e1
    all_goals first | (cases e1; done) | skip
    cases e1
    split at h
    · rename_i hw
      obtain ⟨rfl, hw⟩ := hw
      exact ⟨_, rfl, hw⟩
    · cases h
theorem open_floats (hval : Value.okWide Try.prog w .any b0 40 v) (hd : DataW.Trod enc Try.prog w 0 spare held 40 v d ps)
    (hz : (DataW.weightsEach Try.prog ts ds).all (· ≤ reachBytes) = true) (hj : ts[j]? = some 40) (hj' : ds[j]? = some d) :
    ∃ A n c xs, v = .slice A n c ∧ Sl w 1 8 fF gF A n c xs :=
  open_sl fF gF Try.underlying40 (by kernel_rfl) (by decide) (by kernel_rfl) (fun _ _ _ h => trod_float h) hval hd hz hj hj'
theorem open_nums (hval : Value.okWide Try.prog w .any b0 35 v) (hd : DataW.Trod enc Try.prog w 0 spare held 35 v d ps)
    (hz : (DataW.weightsEach Try.prog ts ds).all (· ≤ reachBytes) = true) (hj : ts[j]? = some 35) (hj' : ds[j]? = some d) :
    ∃ A n c xs, v = .slice A n c ∧ Sl w 1 8 fI gI A n c xs :=
  open_sl fI gI Try.underlying35 (by kernel_rfl) (by decide) (by kernel_rfl) (fun _ _ _ h => by
    obtain ⟨m, rfl, _, hw⟩ := DataW.trod_int Try.underlying3 h
    exact ⟨m, rfl, hw⟩) hval hd hz hj hj'
end
end Go.Proofs.Ytbhchnfdhdjfnaa

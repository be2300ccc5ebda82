/- The walk of Mixes, where the numbers are not too many. -/
import Derived.Test.YtecppnkfnppmoaaMix
import Derived.Test.YtecppnkfnppmoaaSrt
namespace Go.Proofs.Ytecppnkfnppmoaa
open Go.RowKit Go.Mm Go.Sched
/-- a closure over the first of the orders -/
def MxsE (l : List Int) (w : World) (e : Ending) (w' : World) : Prop := ∃ (ob lb n c : Nat) (A : Option Addr), e = .returned (.func (.func 50) #[] #[.pointer (some ⟨ob, 0, none⟩), .pointer (some ⟨lb, 0, none⟩)]) ∧
  Hid ((srt l).length = n ∧ w'.cell? ⟨ob, 0, none⟩ = some (.bool true) ∧ w'.cell? ⟨lb, 0, none⟩ = some (.slice A n c) ∧ Rd w' A n 1 (iL (srt l)) ∧ Below w.heap.size w w')
set_option maxRecDepth 100000 in
set_option maxHeartbeats 1000000 in
theorem mixes_ok (A : Option Addr) (n c : Nat) (l : List Int) (w : World) (h : Rd w A n 1 (iL l)) (hl : l.length = n) (hk : okS l) :
    Calls Try.prog 30 #[.slice A n c] w (MxsE l w) := by
  have hmf : ∀ (fn : Fn) (first cap : Array Value) (w : World), (Instr.makeFunc fn first cap).run Try.prog w = .ok (.func fn first cap) w := fun _ _ _ _ => rfl
  have SC := Mm.hid (sorted_ok A n c l w h hl hk)
  clear h hl hk
  go_enter Try.func30, Try.ntmps30
  go_wp2_with (go_at_call 49; refine SC.out.mono ?_; rintro e w1 ⟨A1, m, c1, rfl, hc1, K⟩)
  have f1 : Fr (fun _ => False) w1 (w1.alloc (.cells #[.slice A1 m c1] 22)) := Fr.alloc _ _ _
  have f2 : Fr (fun _ => False) (w1.alloc (.cells #[.slice A1 m c1] 22)) ((w1.alloc (.cells #[.slice A1 m c1] 22)).alloc (.cells #[.bool true] 4)) := Fr.alloc _ _ _
  have f := f1.trans f2 fun _ _ h => h
  have fin : Hid ((srt l).length = m ∧ ((w1.alloc (.cells #[.slice A1 m c1] 22)).alloc (.cells #[.bool true] 4)).cell? ⟨w1.heap.size + 1, 0, none⟩ = some (.bool true) ∧ ((w1.alloc (.cells #[.slice A1 m c1] 22)).alloc (.cells #[.bool true] 4)).cell? ⟨w1.heap.size, 0, none⟩ = some (.slice A1 m c1) ∧ Rd ((w1.alloc (.cells #[.slice A1 m c1] 22)).alloc (.cells #[.bool true] 4)) A1 m 1 (iL (srt l)) ∧ Below w.heap.size w ((w1.alloc (.cells #[.slice A1 m c1] 22)).alloc (.cells #[.bool true] 4))) := by
    refine ⟨K.out.1, ?_, ?_, f.rd (Rd.of_own K.out.2.1) fun _ _ h => h, K.out.2.2.trans (f.below (fun _ h => h.elim) K.out.2.2.size)⟩
    · have := (Blk.new (w1.alloc (.cells #[.slice A1 m c1] 22)) #[.bool true] 4).cell 0
      rw [World.size_alloc] at this
      exact this
    · exact f2.cell ((Blk.new w1 #[.slice A1 m c1] 22).cell 0) fun h => h
  clear f1 f2 f
  go_ret
  exact ⟨_, _, m, c1, A1, rfl, fin⟩
end Go.Proofs.Ytecppnkfnppmoaa

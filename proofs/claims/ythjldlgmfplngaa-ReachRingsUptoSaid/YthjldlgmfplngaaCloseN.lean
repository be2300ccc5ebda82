/- Walk: Close of numbers without a next. -/
import Derived.Test.YthjldlgmfplngaaCloseI
namespace Go.Proofs.Ythjldlgmfplngaa
open Go.RowKit Go.Mm Go.Maps Go.Reach Go.WideMaps
theorem run_neq_nilf (w : World) : (binOp .neq 27 .nilFunc .nilFunc).run Try.prog w = .ok (.bool false) w := by kernel_rfl
set_option maxRecDepth 100000 in
set_option maxHeartbeats 1000000 in
theorem closei_nil (l0 : List Int) (hk : ∀ x ∈ l0, Okn x) (hr0 : l0.length * 8 ≤ 140737488355328) (A : Option Addr) (n c : Nat) (w : World) (hr : Rd w A n 1 (iL l0)) :
    Calls Try.prog 15 #[.slice A n c, .nilFunc] w fun e w' => ∃ A1 m c1, e = .returned (.slice A1 m c1) ∧ m ≤ c1 ∧ m ≤ n ∧ Hid ((puts [] l0).length = m ∧ w'.ownsRow w.heap.size 3 1 (.slice A1 m c1) m (iL (puts [] l0)) ∧ Fr (fun _ => False) w w') := by
  have hmm := @run_makeMap Try.prog
  have hnf := run_neq_nilf
  have hmf : ∀ (fn : Fn) (first cap : Array Value) (w : World), (Instr.makeFunc fn first cap).run Try.prog w = .ok (.func fn first cap) w := fun _ _ _ _ => rfl
  have R := Mm.hid hr
  have HK := Mm.hid hk
  have R0 := Mm.hid hr0
  have CS := Mm.hid (clsi_start w)
  have f3 : Fr (fun _ => False) w (((w.alloc (.map #[] 0)).alloc (.cells #[.map (some w.heap.size)] 61)).alloc (.cells #[.slice none 0 0] 22)) := ((Fr.alloc _ w _).trans (Fr.alloc (fun _ => False) _ _) fun _ _ h => h).trans (Fr.alloc (fun _ => False) _ _) fun _ _ h => h
  have F3 := Mm.hid f3
  have hs3 : (((w.alloc (.map #[] 0)).alloc (.cells #[.map (some w.heap.size)] 61)).alloc (.cells #[.slice none 0 0] 22)).heap.size = w.heap.size + 3 := by simp
  have HS3 := Mm.hid hs3
  clear hr hk f3 hs3 hr0
  go_enter Try.func15, Try.ntmps15
  go_upto_region 4 with (fail)
  obtain ⟨w3, hw3⟩ : ∃ w3, ((w.alloc (.map #[] 0)).alloc (.cells #[.map (some w.heap.size)] 61)).alloc (.cells #[.slice none 0 0] 22) = w3 := ⟨_, rfl⟩
  rw [hw3] at CS F3 HS3 ⊢
  clear hw3
  have hn : l0.length = n := by have := R.out.1; rw [iL_len] at this; omega
  have R3 := Mm.hid (F3.out.rd R.out fun _ _ h => h)
  have RA3 : Hid (0 < n → ∀ ad, A = some ad → ¬ ClC (w.heap.size + 1) (w.heap.size + 2) w.heap.size (.slice none 0 0) ad.block) := fun hp ad ha hc => by
    obtain ⟨ad', ha', hl, _⟩ := R.out.2 hp
    rw [ha] at ha'; injection ha' with ha'; subst ha'
    have := CS.out.cge _ hc
    omega
  have RL : Hid ((([] : List Int).length + l0.length) * 8 ≤ 140737488355328) := by show _ ≤ _; simpa using R0.out
  have HB3 : Hid (w.heap.size ≤ w3.heap.size) := by show _ ≤ _; rw [HS3.out]; omega
  clear R0
  have P1 := Mm.hid (puti_any _ _ _ _ _ _ _ _ _ c w3 CS.out R3.out RA3.out HK.out HB3.out RL.out)
  have PL : Hid ((puts [] l0).length ≤ n) := by
    show _ ≤ _
    have := putsi_len_le [] l0
    have h0 : ([] : List Int).length = 0 := rfl
    omega
  go_wp2_with (go_at_call 41; refine P1.out.mono ?_; rintro e w' ⟨rfl, v1, c1, o1, f1⟩)
  have f4 : Fr (fun _ => False) w w' := F3.out.trans f1 fun j hj hc => by
    have := CS.out.cge j hc; omega
  have FW := Mm.hid f4
  obtain ⟨m, hm⟩ : ∃ m, (puts [] l0).length = m := ⟨_, rfl⟩
  have hrow := c1.row
  rw [hm] at hrow
  obtain ⟨A1, cc, rfl, hc1, _, _⟩ := own_slice hrow
  have d1 : w'.cell? ⟨w.heap.size + 1 + 1, 0, none⟩ = some (.slice A1 m cc) := c1.lst.cell 0
  have RW := Mm.hid hrow
  have HM := Mm.hid hm
  clear c1 o1 f1 f4 P1 CS F3 HS3 R3 RA3 RL HB3 R HK hrow hm
  go_loopw [8] (fun i wr => i = .int .i64 0 ∧ wr = w') (fun _ _ => 0)
  case atStart => exact ⟨rfl, rfl⟩
  case round =>
    obtain ⟨rfl, hwr⟩ := hrel
    rw [hwr]
    clear hwr
    go_wp2_with fail
    go_ret
    exact ⟨A1, m, cc, rfl, hc1, by rw [← HM.out]; exact PL.out, HM.out, RW.out, FW.out⟩
end Go.Proofs.Ythjldlgmfplngaa

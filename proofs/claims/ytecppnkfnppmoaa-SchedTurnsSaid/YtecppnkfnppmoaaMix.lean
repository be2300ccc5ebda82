/- The walk of the closure that hands on all orders, each in memory of its own. -/
import Derived.Test.YtecppnkfnppmoaaOrd
namespace Go.Proofs.Ytecppnkfnppmoaa
open Go.RowKit Go.Mm Go.Sched
attribute [local go_sem] Oper.semAt_some
theorem own_len' {w : World} {A : Option Addr} {n : Nat} {xs : List Int} (h : Rd w A n 1 (iL xs)) : xs.length = n := by
  have := h.1
  rw [iL_len] at this
  omega
/-- what a call of yield tells, as one way on -/
theorem yield_one {F : Fence} {m : Nat} {P : Program} {l fn : Nat} {tmps : Array Value} {assign body : Code} {W : World} {T U : World → Prop} (h : RoundIn F m P l fn tmps assign body W fun e W' => (e = .returned (.bool true) ∧ T W') ∨ (e = .returned (.bool false) ∧ U W')) :
    RoundIn F m P l fn tmps assign body W fun e W' => ∃ r : Bool, e = .returned (.bool r) ∧ Hid ((r = true → T W') ∧ (r = false → U W')) :=
  RoundIn.mono h fun e W' hh => by
    rcases hh with ⟨rfl, h1⟩ | ⟨rfl, h1⟩
    · exact ⟨true, rfl, fun _ => h1, fun h => Bool.noConfusion h⟩
    · exact ⟨false, rfl, fun h => Bool.noConfusion h, fun _ => h1⟩
theorem orders_any (A : Option Addr) (n c : Nat) (w : World) : Calls Try.prog 51 #[.slice A n c] w fun e w' => e = .returned (.func (.func 55) #[] #[.pointer (some ⟨w.heap.size, 0, none⟩)]) ∧ w' = w.alloc (.cells #[.slice A n c] 22) := by
  have hmf : ∀ (fn : Fn) (first cap : Array Value) (w : World), (Instr.makeFunc fn first cap).run Try.prog w = .ok (.func fn first cap) w := fun _ _ _ _ => rfl
  go_enter Try.func51, Try.ntmps51
  go_wp2_with fail
  go_ret
  exact ⟨rfl, rfl⟩
/-- what a round is handed: the order that is next, in memory of its own -/
def MixV (L0 : List Int) (n B : Nat) (pre : List (Value × List Int)) (x : Value × List Int) (W : World) : Prop :=
  ordN L0 pre.length = some x.2 ∧ B + 6 ≤ W.heap.size ∧ ∃ A c, x.1 = .slice A n c ∧ n ≤ c ∧ W.ownsRow (B + 6) 3 1 (.slice A n c) n (iL x.2)
theorem mixV_keep {L0 : List Int} {n : Nat} : ∀ B pre x (W W' : World), MixV L0 n B pre x W → W.heap.size ≤ W'.heap.size → (∀ g, B ≤ g → g < W.heap.size → W'.heap[g]? = W.heap[g]?) → MixV L0 n B pre x W' := by
  rintro B pre x W W' ⟨h1, h2, A, c, h3, h4, h5⟩ hs hg
  refine ⟨h1, Nat.le_trans h2 hs, A, c, h3, h4, h5.1, ?_⟩
  rcases h5.2 with h0 | ⟨g, cap, cur, hv, hb, hgg, r⟩
  · exact .inl h0
  · exact .inr ⟨g, cap, cur, hv, hb, (hg g (by omega) (Array.getElem?_eq_some_iff.1 hgg).1).trans hgg, r⟩
/-- so many have been handed on -/
def MixI (L0 : List Int) (l B : Nat) (J : List (Value × List Int) → World → Prop) (pre : List (Value × List Int)) (W' : World) : Prop :=
  ∃ pre', J pre' W' ∧ pre'.length = pre.length ∧ (∀ i x, pre'[i]? = some x → ordN L0 i = some x.2) ∧ Blk W' B 84 #[.func (.yield l) #[] #[]]
set_option maxRecDepth 100000 in
set_option maxHeartbeats 4000000 in
theorem mix_iter (ob lb : Nat) (A : Option Addr) (n c : Nat) (L0 : List Int) (w : World) (hn0 : 0 < n) (ho : w.cell? ⟨ob, 0, none⟩ = some (.bool true)) (hb : w.cell? ⟨lb, 0, none⟩ = some (.slice A n c)) (hr : Rd w A n 1 (iL L0)) (hl : L0.length = n) (hn : n ≤ 1048576) :
    Iter Try.prog 50 #[.pointer (some ⟨ob, 0, none⟩), .pointer (some ⟨lb, 0, none⟩)] 6 (fun x : Value × List Int => #[x.1]) (MixV L0 n) (OrdS L0) w := by
  intro l J Jx W N hW hNJ hJ hJx hY h0
  have hc1 := hW.cell ho (fun h => h)
  have hc2 := hW.cell hb (fun h => h)
  have RW := Mm.hid (hW.rd hr fun _ _ h => h)
  have HY := Mm.hid hY
  have H0 := Mm.hid h0
  have HJ := Mm.hid hJ
  have HJx := Mm.hid hJx
  have HNJ := Mm.hid hNJ
  clear hY h0 hb hr ho hJ hJx hNJ
  refine callsIn_of_wp_marks Try.func50 rfl trivial ?_ rfl
  simp only [Try.ntmps50, List.size_toArray, List.length_cons, List.length_nil, Nat.reduceAdd, Nat.reduceSub, Array.replicate_succ, Array.replicate_zero, List.push_toArray, List.append_toArray, List.nil_append, List.cons_append]
  obtain ⟨Wa, hWa⟩ : ∃ Wa, W.alloc (.cells #[.func (.yield l) #[] #[]] 84) = Wa := ⟨_, rfl⟩
  have fa : Fr (fun _ => False) W Wa := hWa ▸ Fr.alloc _ W _
  have d1 : (W.alloc (.cells #[.func (.yield l) #[] #[]] 84)).cell? ⟨ob, 0, none⟩ = some (.bool true) := by rw [hWa]; exact fa.cell hc1 (fun h => h)
  have d2 : (W.alloc (.cells #[.func (.yield l) #[] #[]] 84)).cell? ⟨lb, 0, none⟩ = some (.slice A n c) := by rw [hWa]; exact fa.cell hc2 (fun h => h)
  have sa : Wa.heap.size = W.heap.size + 1 := by rw [← hWa]; simp
  have SA := Mm.hid sa
  have OC := Mm.hid (orders_any A n c Wa)
  rw [sa] at OC
  have FA := Mm.hid fa
  have BA : Hid (Blk Wa W.heap.size 84 #[.func (.yield l) #[] #[]]) := by show Blk _ _ _ _; rw [← hWa]; exact Blk.new W _ _
  have HWA := Mm.hid hWa
  clear hc1 hc2 hWa fa sa
  gi_wp2_with ((refine ⟨trivial, rfl, ?_⟩; rw [HWA.out]; refine (callsIn_wide.2 OC.out).mono ?_; rintro e w1 ⟨rfl, hw1⟩))
  obtain ⟨Wb, hWb⟩ : ∃ Wb, Wa.alloc (.cells #[.slice A n c] 22) = Wb := ⟨_, rfl⟩
  rw [hWb]
  have fb : Fr (fun _ => False) Wa Wb := hWb ▸ Fr.alloc _ Wa _
  have sb : Wb.heap.size = W.heap.size + 2 := by rw [← hWb]; simp [SA.out]
  have cb : Wb.cell? ⟨W.heap.size + 1, 0, none⟩ = some (.slice A n c) := by rw [← hWb, ← SA.out]; exact (Blk.new Wa _ _).cell 0
  have fab : Fr (fun _ => False) W Wb := FA.out.trans fb fun _ _ h => h
  have ORD := Mm.hid (ord_iter (W.heap.size + 1) A n c L0 Wb cb (fab.rd RW.out fun _ _ h => h) hl hn)
  have BB := Mm.hid (fb.blk BA.out fun h => h)
  have SB := Mm.hid sb
  have FAB := Mm.hid fab
  clear fb sb cb fab hWb BA d1 d2
  refine wpIn_iter (gf := 55) (lb := #[.pointer (some ⟨W.heap.size + 1, 0, none⟩)]) (k := 2) rfl (enters_of Try.func55 (by kernel_rfl) rfl) (fun _ => rfl) ORD.out ordV_keep
    (MixI L0 l W.heap.size J)
    (fun cd _ W' => cd = .ret ∧ ∃ pre', Jx pre' W') ?hI ?hIx ?h0 N ?hN
    (fun x => { tmps := #[.func (.yield l) #[] #[], .pointer (some ⟨ob, 0, none⟩), .pointer (some ⟨lb, 0, none⟩), .pointer (some ⟨W.heap.size, 0, none⟩), x.1, .bool true, .bool false, .slice A n c, .func (.func 55) #[] #[.pointer (some ⟨W.heap.size + 1, 0, none⟩)], x.1, undef, undef, undef, undef, undef], defers := [] }) ?assign ?body ?done ?stop
  case hI =>
    rintro pre X Y ⟨pre', h1, h2, h3, h4⟩ hf
    rw [SB.out] at hf
    exact ⟨pre', HJ.out _ _ _ h1 (hf.mono fun g h => ⟨by have := h.1; omega, by have := h.2; omega⟩), h2, h3, hf.blk h4 fun h => by have := h.1; omega⟩
  case hIx =>
    rintro cd pre X Y ⟨h0, pre', h1⟩ hf
    rw [SB.out] at hf
    exact ⟨h0, pre', HJx.out _ _ _ h1 (hf.mono fun g h => ⟨by have := h.1; omega, by have := h.2; omega⟩)⟩
  case h0 => exact ⟨[], HJ.out _ _ _ H0.out (FAB.out.mono fun _ h => h.elim), rfl, fun i x h => by simp at h, BB.out⟩
  case hN =>
    rintro pre X ⟨pre', h1, h2, _⟩
    have := HNJ.out _ _ h1
    omega
  case assign =>
    intro l' x X K hK
    gi_wp2
    exact hK
  case body =>
    rintro pre ⟨xv, xl⟩ X ⟨pre', h1, h2, h3, h4⟩ hv hsz
    obtain ⟨v1, v2, A', c', v3, v4, v5, v6⟩ := hv
    simp only at v1 v3 v5
    subst v3
    have hmx : Try.prog.follows .mixedOrders = true := by kernel_rfl
    have dx : X.cell? ⟨W.heap.size, 0, none⟩ = some (.func (.yield l) #[] #[]) := h4.cell 0
    have hxl : xl.length = n := by have := own_len' v5; exact this
    have CL := Mm.hid (clone2_any A' n c' xl X.drew ((Fr.drew (fun _ => False) X).rd v5 fun _ _ h => h) hxl (by omega))
    have HB4 := Mm.hid h4
    have HH1 := Mm.hid h1
    have HH2 := Mm.hid h2
    have HH3 := Mm.hid h3
    have HV1 := Mm.hid v1
    have hsx : W.heap.size + 6 ≤ X.heap.size := by have := v2 hn0; have := SB.out; omega
    have HSX := Mm.hid hsx
    have HXL := Mm.hid hxl
    clear h1 h2 h3 h4 v1 v2 v5 v6 hsx hxl hsz
    gi_wp2
    gi_region_with_o (first
      | (refine ⟨trivial, rfl, ?_⟩; refine (CallsIn.inRound _ (callsIn_wide.2 CL.out)).mono ?_; rintro e w3 ⟨A3, m3, c3, rfl, hc3, K⟩; obtain rfl : m3 = n := K.out.1.symm.trans HXL.out; have F3 : Hid (Fr (fun _ => False) X w3) := (Fr.drew (fun _ => False) X).trans (Fr.of_below K.out.2.2.1) (fun _ _ h => h); have J3 : Hid (J pre' w3) := HJ.out _ _ _ HH1.out (F3.out.mono fun _ h => h.elim); have V3 : Hid (MixV L0 m3 W.heap.size pre' (.slice A3 m3 c3, xl) w3) := ⟨by rw [HH2.out]; exact HV1.out, Nat.le_trans HSX.out F3.out.size, A3, c3, rfl, hc3, own_mono K.out.2.1 HSX.out⟩; have dx3 : w3.cell? ⟨W.heap.size, 0, none⟩ = some (.func (.yield l) #[] #[]) := F3.out.cell dx (fun h => h); obtain ⟨fn3, tmps3, assign3, body3, hy, hRn⟩ := HY.out pre' (.slice A3 m3 c3, xl) w3 J3.out V3.out; dsimp only at hy; have RN := Mm.hid (yield_one hRn); clear hRn K)
      | (refine ⟨rfl, RoundIn.mono (F := Fence.wide) RN.out ?_⟩; rintro e W3 ⟨r3, rfl, HR3⟩))
    all_goals (
      have HF3 : Hid (Hold Wb.heap.size (2 + 2) X w3) := Hold.of_fr F3.out fun _ _ h => h
      have BX3 : Hid (Blk w3 W.heap.size 84 #[.func (.yield l) #[] #[]]) := F3.out.blk HB4.out fun h => h
      have S3 : Hid (W.heap.size + 6 ≤ w3.heap.size) := Nat.le_trans HSX.out F3.out.size
      cases r3
      · have RT : Hid (Hold Wb.heap.size (2 + 2) X W3 ∧ ∃ pre', Jx pre' W3) := by
          obtain ⟨h1, h2⟩ := HR3.out.2 rfl
          exact ⟨HF3.out.trans ⟨h2.size, fun g hg hl => h2.same g ⟨by have := hg.1; have := SB.out; omega, by have := hg.2; have := SB.out; omega⟩ hl⟩, _, h1⟩
        gi_wp2
        exact ⟨RT.out.1, rfl, RT.out.2⟩
      · have NM : Hid (Hold Wb.heap.size (2 + 2) X W3 ∧ MixI L0 l W.heap.size J (pre ++ [((Value.slice A' m3 c', xl) : Value × List Int)]) W3) := by
          obtain ⟨h1, h2⟩ := HR3.out.1 rfl
          refine ⟨HF3.out.trans ⟨h2.size, fun g hg hl => h2.same g ⟨by have := hg.1; have := SB.out; omega, by have := hg.2; have := SB.out; omega⟩ hl⟩, _, h1, by simp [HH2.out], fun i x hx => ?_, BX3.out.keep (h2.same _ ⟨Nat.le_refl _, by omega⟩ (by have := S3.out; omega))⟩
          rcases Nat.lt_or_ge i pre'.length with h | h
          · rw [List.getElem?_append_left h] at hx
            exact HH3.out i x hx
          · have hi := (List.getElem?_eq_some_iff.1 hx).1
            rw [List.length_append, List.length_singleton] at hi
            obtain rfl : i = pre'.length := by omega
            rw [List.getElem?_append_right (Nat.le_refl _), Nat.sub_self] at hx
            injection hx with hx
            rw [← hx, HH2.out]
            exact HV1.out
        gi_wp2
        exact NM.out)
  case done =>
    rintro xs X hS ⟨pre', h1, h2, h3, h4⟩ hD
    have hd := run_takeDeferred (P := Try.prog) hD
    have fin : Hid ((∃ xs, OrdS L0 xs ∧ J xs (X.putObj Wb.heap.size (.deferred none))) ∨ ∃ pre, Jx pre (X.putObj Wb.heap.size (.deferred none))) := by
      refine .inl ⟨pre', ⟨by rw [h2]; exact hS.1, h3⟩, HJ.out _ _ _ h1 (Fr.putObj _ _ _ ⟨?_, ?_⟩)⟩ <;> have := SB.out <;> omega
    gi_wp2
    refine ⟨by simp, .inl ⟨_, _, rfl, hd, ?_⟩⟩
    exact ⟨_, results_none rfl _ _ _, ⟨_, rfl⟩, fin⟩
  case stop =>
    rintro cd pre X ⟨rfl, pre', h1⟩ hD
    have hd := run_takeDeferred (P := Try.prog) hD
    have fin : Hid ((∃ xs, OrdS L0 xs ∧ J xs (X.putObj Wb.heap.size (.deferred none))) ∨ ∃ pre, Jx pre (X.putObj Wb.heap.size (.deferred none))) := by
      refine .inr ⟨pre', HJx.out _ _ _ h1 (Fr.putObj _ _ _ ⟨?_, ?_⟩)⟩ <;> have := SB.out <;> omega
    gi_wp2
    refine ⟨by simp, .inl ⟨_, _, rfl, hd, ?_⟩⟩
    exact ⟨_, results_none rfl _ _ _, ⟨_, rfl⟩, fin⟩
end Go.Proofs.Ytecppnkfnppmoaa

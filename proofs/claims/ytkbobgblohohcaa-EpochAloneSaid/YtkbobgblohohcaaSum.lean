/- Walk: the law CellsSum, where the numbers are at most 2^20. -/
import Derived.Test.YtkbobgblohohcaaNames
namespace Go.Proofs.Ytkbobgblohohcaa
open Go.RowKit Go.Mm Go.Cells
def fI (x : Int) : List Value := [.int .i64 x]
def gI (x : Int) : Prop := (Lit.int .i64 x).wf = true
set_option maxRecDepth 100000 in
theorem open_nums {H : Type} {enc : TypeId × Value → H} {w : World} {b0 : Nat} {spare : Nat → Bool} {held : Bool} {v : Value} {d : DataW H} {ps : List MemPlace} {ts : List TypeId} {ds : List (DataW H)} {j : Nat} (hval : Value.okWide Try.prog w .any b0 30 v) (hd : DataW.Trod enc Try.prog w 0 spare held 30 v d ps)
    (hz : (DataW.weightsEach Try.prog ts ds).all (· ≤ reachBytes) = true) (hj : ts[j]? = some 30) (hj' : ds[j]? = some d) :
    ∃ A n c xs, v = .slice A n c ∧ Sl w 1 8 fI gI A n c xs :=
  open_sl fI gI Try.underlying30 (by kernel_rfl) (by decide) (by kernel_rfl) (fun _ _ _ h => by
    obtain ⟨m, rfl, _, hw⟩ := DataW.trod_int Try.underlying3 h
    exact ⟨m, rfl, hw⟩) hval hd hz hj hj'
theorem add_ws {S : Cm} {i : Nat} {x y : Int} (h : S.ws[i]? = some x) (hp : x ≠ poison) : (S.add i y).ws = S.ws.set i (wrap64 (x + y)) ∧ (S.add i y).bad = S.bad ∧ (S.add i y).tr.length = S.tr.length + 1 := by
  obtain ⟨h1, h2⟩ := look_good h hp
  unfold Cm.add
  rw [h1, h2]
  simp
/-- the word a holds s -/
structure At (base g : Nat) (w0 : World) (w : World) (a : Nat) (s : Int) (k : Nat) : Prop where mk ::
  out : ∃ (F : Nat → Prop) (S : Cm), MemB base F w g S ∧ Below base w0 w ∧ S.ws[a]? = some s ∧ s ≠ poison ∧ S.tr.length ≤ k ∧ S.bad = 0
set_option maxHeartbeats 4000000 in
theorem law_sum (x y : Int) (A : Option Addr) (N c : Nat) (xs : List Int) (w : World) (_ : (Lit.int .i64 x).wf = true) (_ : (Lit.int .i64 y).wf = true) (h : Sl w 1 8 fI gI A N c xs) (hN : N ≤ 1048576) :
    Calls Try.prog 4 #[.int .i64 x, .int .i64 y, .slice A N c] w fun e w' => e = .returned (.bool true) ∧ Below w.heap.size w w' := by
  have R : Hid (Rd w A N 1 (iL xs)) := by have := h.rd; rw [show xs.flatMap fI = iL xs from iL_flat xs] at this; exact this
  have LN := Mm.hid h.len
  have hcap : N ≤ c := h.cap
  clear h
  go_enter Try.func4, Try.ntmps4
  go_wp2_with fail
  refine (made_any x _).mono ?_
  rintro e w1 ⟨g, n, F, hn1, hn2, rfl, M⟩
  go_wp2_with fail
  refine (pick_any y n _ hn1 (by omega)).mono ?_
  rintro e w1' ⟨a, ha, rfl, rfl, -⟩
  have A0 : Hid (At w.heap.size g w w1 a 0 3) := ⟨F, _, M.out.2.1, M.out.2.2, by simp [Cm.made, ha], by decide, by simp [Cm.made], rfl⟩
  clear M F
  go_wp2_with fail
  go_loopw [10, 11] (fun s i wr => ∃ (k : Nat) (z : Int), k ≤ N ∧ i = .int .i64 (k : Nat) ∧ s = .int .i64 z ∧ Hid (At w.heap.size g w wr a z (3 + k))) (fun _ i _ => N - (intOf i).toNat)
  case atStart => exact ⟨0, 0, Nat.zero_le _, rfl, rfl, A0.out⟩
  case round =>
    obtain ⟨k, z, hk, rfl, rfl, HA⟩ := hrel
    clear A0
    obtain ⟨F, S, m1, m2, m3, m4, m5, m6⟩ := HA.out.out
    have M1 := Mm.hid m1
    have B1 := Mm.hid m2
    have L1 := Mm.hid (look_good m3 m4).1
    have hs : w.heap.size ≤ wr.heap.size := m2.size
    by_cases hlt : k < N
    · obtain ⟨q, hq⟩ : ∃ q, xs[k]? = some q := ⟨_, List.getElem?_eq_getElem (by rw [LN.out]; exact hlt)⟩
      obtain ⟨ad, rfl, _, f1⟩ := (R.out.below B1.out).cell (iL_get hq)
      obtain ⟨d1, d2, d3⟩ := add_ws (y := q) m3 m4
      have X1 : Hid ((S.add a q).ws[a]? = some (wrap64 (z + q))) := by show _ = _; rw [d1]; exact set_get m3
      have tl : Hid ((S.add a q).tr.length ≤ 3 + (k + 1) ∧ (S.add a q).bad = 0) := ⟨by omega, by omega⟩
      have hb0 : Hid (S.bad = 0 ∧ S.tr.length ≤ 3 + k) := ⟨m6, m5⟩
      have HQ := Mm.hid hq
      clear m1 m2 m3 m4 m5 m6 d1 d2 d3 hq HA
      go_wp2_with fail
      refine (add_any w.heap.size g F S a _ q M1.out hs (by rw [hb0.out.1]; omega) (by have := hb0.out.2; omega)).mono ?_
      rintro e w2 ⟨rfl, F2, M2, S2, R2⟩
      rw [L1.out]
      have T2 := Mm.hid (And.intro M2 (B1.out.trans (R2.below (fun k hk => (M1.out.lt k hk).1) hs)))
      have f2 : w2.cell? (ad.add k) = some (.int .i64 q) := by
        have hf := (Fr.of_below (w := w) (w1 := wr) (by exact B1.out))
        have := (R.out.below T2.out.2).2 (by omega)
        obtain ⟨ad', e1, _, e2⟩ := this
        injection e1 with e1
        subst e1
        exact e2 k _ (iL_get HQ.out)
      clear M2 S2 R2
      by_cases hp : wrap64 (z + q) = poison
      · have hpb : (wrap64 (z + q) == -4611686018427387904) = true := beq_iff_eq.2 hp
        go_wp2
        go_ret
        exact ⟨rfl, T2.out.2⟩
      · have hpb : (wrap64 (z + q) == -4611686018427387904) = false := beq_eq_false_iff_ne.2 hp
        have A2 : Hid (At w.heap.size g w w2 a (wrap64 (z + q)) (3 + (k + 1))) := ⟨F2, _, T2.out.1, T2.out.2, X1.out, hp, tl.out.1, tl.out.2⟩
        clear hp
        go_wp2
        go_roundw
        case rel => exact ⟨k + 1, _, by omega, by go_num, rfl, A2.out⟩
        case measure => simp [intOf] <;> omega
    · have hb0 : Hid (S.bad = 0 ∧ S.tr.length ≤ 3 + k) := ⟨m6, m5⟩
      clear m1 m2 m3 m4 m5 m6 HA
      go_wp2_with fail
      refine (load_any w.heap.size g F S a _ M1.out hs (by rw [hb0.out.1]; omega) (by have := hb0.out.2; omega)).mono ?_
      rintro e w2 ⟨rfl, F2, M2, S2, R2⟩
      rw [L1.out]
      have T2 := Mm.hid (B1.out.trans (R2.below (fun k hk => (M1.out.lt k hk).1) hs))
      clear M2 S2 R2
      go_wp2
      go_ret
      exact ⟨by simp, T2.out⟩
end Go.Proofs.Ytkbobgblohohcaa

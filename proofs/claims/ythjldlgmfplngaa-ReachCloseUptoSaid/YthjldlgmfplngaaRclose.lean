/- Walk: Close of numbers, as the document has it. -/
import Derived.Test.YthjldlgmfplngaaWith
namespace Go.Reach
/-- what a table says of a number -/
def tabF (tb : List (List Int)) (x : Int) : List Int := if 0 ≤ x then (tb[x.toNat]?).getD [] else []
theorem tabF_row {tb : List (List Int)} {x : Int} {i : Nat} {xs : List Int} (hx : x = (i : Nat)) (h : tb[i]? = some xs) : tabF tb x = xs := by
  unfold tabF
  rw [if_pos (by omega), hx, Int.toNat_natCast, h]
  rfl
theorem tabF_out {tb : List (List Int)} {x : Int} (h : x < 0 ∨ (tb.length : Int) ≤ x) : tabF tb x = [] := by
  unfold tabF
  split
  · rename_i h0
    rw [List.getElem?_eq_none (by omega)]
    rfl
  · rfl
theorem tabF_mem {tb : List (List Int)} {x y : Int} (h : y ∈ tabF tb x) : y ∈ tb.flatten := by
  unfold tabF at h
  split at h
  · cases ht : tb[x.toNat]? with
    | none => rw [ht] at h; simp at h
    | some xs => rw [ht] at h; exact List.mem_flatten.2 ⟨xs, List.mem_of_getElem? ht, h⟩
  · simp at h
end Go.Reach
namespace Go.Proofs.Ythjldlgmfplngaa
open Go.RowKit Go.Mm Go.Maps Go.Reach Go.WideMaps
/-- a table that is read -/
structure TabR (w : World) (A : Option Addr) (n : Nat) (vs : List Value) (tb : List (List Int)) : Prop where
  rd : Rd w A n 1 vs
  len : tb.length = n
  row : ∀ (i : Nat) (v : Value) (xs : List Int), vs[i]? = some v → tb[i]? = some xs → ∃ A' c', v = .slice A' xs.length c' ∧ xs.length ≤ c' ∧ Rd w A' xs.length 1 (iL xs)
theorem TabR.fr {w w' : World} {A : Option Addr} {n : Nat} {vs : List Value} {tb : List (List Int)} (h : TabR w A n vs tb) (hf : Fr (fun _ => False) w w') : TabR w' A n vs tb :=
  ⟨hf.rd h.rd fun _ _ h => h, h.len, fun i v xs hv hx => by
    obtain ⟨A', c', e, hc, r⟩ := h.row i v xs hv hx
    exact ⟨A', c', e, hc, hf.rd r fun _ _ h => h⟩⟩
theorem TabR.nil (w : World) : TabR w none 0 [] [] := ⟨Rd.nil _ _ _, rfl, fun i v xs h => by simp at h⟩
theorem TabR.at {w : World} {A : Option Addr} {n : Nat} {vs : List Value} {tb : List (List Int)} (h : TabR w A n vs tb) {i : Nat} {xs : List Int} (hx : tb[i]? = some xs) : ∃ ad A' c', A = some ad ∧ w.cell? (ad.add i) = some (.slice A' xs.length c') ∧ xs.length ≤ c' ∧ Rd w A' xs.length 1 (iL xs) := by
  have hi := (List.getElem?_eq_some_iff.1 hx).1
  have hl := h.rd.1
  rw [Nat.mul_one] at hl
  obtain ⟨v, hv⟩ : ∃ v, vs[i]? = some v := ⟨_, List.getElem?_eq_getElem (by rw [hl, ← h.len]; exact hi)⟩
  obtain ⟨A', c', rfl, hc, r⟩ := h.row i v xs hv hx
  obtain ⟨ad, e, _, f⟩ := h.rd.cell hv
  exact ⟨ad, A', c', e, f, hc, r⟩
structure TwoI (base : Nat) (A1 : Option Addr) (m c1 : Nat) (A2 : Option Addr) (k c2 : Nat) (l y : List Int) (w0 w : World) : Prop where
  r1 : w.ownsRow base 3 1 (.slice A1 m c1) m (iL l)
  r2 : w.ownsRow base 3 1 (.slice A2 k c2) k (iL y)
  ap : ∀ b, (Value.slice A1 m c1).ownBlock = some b → (Value.slice A2 k c2).ownBlock ≠ some b
  fr : Fr (fun _ => False) w0 w
def RcloE (f : Int → List Int) (l0 : List Int) (w : World) (e : Ending) (w' : World) : Prop :=
  ∃ A1 m c1 A2 c2 L, e = .returned (.tuple #[.slice A1 m c1, .slice A2 m c2]) ∧ m ≤ c1 ∧ m ≤ c2 ∧ L.length = m ∧ Whole f l0 L ∧ Hid (TwoI w.heap.size A1 m c1 A2 m c2 L L w w')
set_option maxRecDepth 100000 in
set_option maxHeartbeats 2000000 in
theorem rclose_any (A : Option Addr) (n c : Nat) (l0 : List Int) (A' : Option Addr) (N c' : Nat) (vs : List Value) (tb : List (List Int)) (U : List Int) (w : World) (hr : Rd w A n 1 (iL l0)) (ht : TabR w A' N vs tb)
    (hU : ∀ x ∈ l0, x ∈ U) (hUt : ∀ x ∈ tb.flatten, x ∈ U) (hl : U.length ≤ 4398046511104) (hl0 : n ≤ 1099511627776) (hlt : ∀ x, (tabF tb x).length ≤ 1099511627776) (_hN : N ≤ 4398046511104) :
    Calls Try.prog 12 #[.slice A n c, .slice A' N c'] w (RcloE (tabF tb) (puts [] l0) w) := by
  have hf : ∀ x ∈ U, ∀ y ∈ tabF tb x, y ∈ U := fun x _ y hy => hUt y (tabF_mem hy)
  have h0 : ∀ y ∈ puts [] l0, y ∈ U := fun y hy => by
    rcases mem_puts.1 hy with h | h
    · simp at h
    · exact hU y h
  have hnl : l0.length = n := by have := hr.1; rw [iL_len] at this; omega
  have T := Mm.hid ht
  have HL := Mm.hid hl
  have HLT := Mm.hid hlt
  have HF := Mm.hid hf
  have H0 := Mm.hid h0
  have ND : Hid (puts [] l0).Nodup := nodup_puts List.nodup_nil
  have PC := Mm.hid (with_any w.heap.size none 0 0 [] A n c l0 w ⟨rfl, .inl ⟨rfl, rfl⟩⟩ hr (fun _ _ _ e => nomatch e) (Nat.le_refl _) (Nat.le_refl _) (by omega))
  have PL : Hid ((puts [] l0).length ≤ n) := by
    show _ ≤ _
    have := putsi_len_le [] l0
    have h0 : ([] : List Int).length = 0 := rfl
    omega
  clear hr ht hU hUt hl hlt hf h0
  generalize puts [] l0 = L0 at *
  go_enter Try.func12, Try.ntmps12
  go_wp2_with (go_at_call 40; refine PC.out.mono ?_; rintro e w1 ⟨A1, m1, c1, rfl, hc1, hm1, h1⟩)
  have ST : Hid (TwoI w.heap.size A1 m1 c1 none 0 0 (cl (tabF tb) L0 0) ((cl (tabF tb) L0 0).take 0) w w1) := ⟨h1.out.1, ⟨rfl, .inl ⟨rfl, rfl⟩⟩, (fun b _ e => nomatch e), h1.out.2.1.mono (fun b e => nomatch e)⟩
  have hL0 : (cl (tabF tb) L0 0).length = m1 := hm1
  clear h1 PC PL
  go_loopw [6, 7, 8] (fun lv yv iv wr => ∃ k m A1 c1 A2 c2, k ≤ m ∧ iv = .int .i64 (k : Nat) ∧ lv = .slice A1 m c1 ∧ m ≤ c1 ∧ yv = .slice A2 k c2 ∧ k ≤ c2 ∧ (cl (tabF tb) L0 k).length = m ∧ Hid (TwoI w.heap.size A1 m c1 A2 k c2 (cl (tabF tb) L0 k) ((cl (tabF tb) L0 k).take k) w wr)) (fun _ _ iv _ => U.length + 1 - (intOf iv).toNat)
  case atStart => exact ⟨0, m1, A1, c1, none, 0, Nat.zero_le _, rfl, rfl, hc1, rfl, Nat.le_refl _, hL0, ST.out⟩
  case round =>
    obtain ⟨k, m, A1, c1, A2, c2, hk, rfl, rfl, hc1, rfl, hc2, hm, HQ⟩ := hrel
    clear ST
    have hmU : m ≤ U.length := by rw [← hm]; exact cl_len ND.out H0.out HF.out k
    have hU9 := HL.out
    by_cases hlt : k < m
    · obtain ⟨x, hx⟩ : ∃ x, (cl (tabF tb) L0 k)[k]? = some x := ⟨_, List.getElem?_eq_getElem (by rw [hm]; exact hlt)⟩
      obtain ⟨ad, rfl, _, f1⟩ := (Rd.of_own HQ.out.r1).cell (iL_get hx)
      have HX := Mm.hid hx
      have HM := Mm.hid hm
      have ES : Hid (cl (tabF tb) L0 (k + 1) = puts (cl (tabF tb) L0 k) (tabF tb x)) := cl_step hx
      have ET : Hid ((cl (tabF tb) L0 k).take k ++ [x] = (cl (tabF tb) L0 (k + 1)).take (k + 1)) := by
        show _ = _
        obtain ⟨t, ht⟩ := cl_succ (f := tabF tb) (l0 := L0) k
        rw [← ht, List.take_append_of_le_length (by omega), take_snoc' hx]
      have HL1 : Hid ((k + 1) * 8 ≤ 140737488355328) := by show _ ≤ _; omega
      have HS1 : Hid (∀ u ∈ (#[.int .i64 x] : Array Value).toList, u.oneCell' = true) := by intro u hu; simp at hu; subst hu; rfl
      have HF2 := Mm.hid HQ.out.r2
      have SZ : Hid (w.heap.size ≤ wr.heap.size) := HQ.out.fr.size
      have R1 := Mm.hid HQ.out.r1
      have AP := Mm.hid HQ.out.ap
      have FQ := Mm.hid HQ.out.fr
      clear hx hm HQ
      go_upto_region 7 with (at_builtin; go_must (refine wp_ape1 w.heap.size rfl (.tmp 17) (.tmp 22) 22 3 (.int .i64 0) 1 8 #[.int .i64 x] rfl Try.underlying22 info3 rfl (by decide) (by decide) (.slice A2 k c2) k _ rfl rfl rfl HS1.out HF2.out (Below.refl _ _) SZ.out HL1.out ?_; intro v1 wa k1 k2 k3 k4; obtain ⟨A3, c3, hv, hc3, _, _⟩ := own_slice k1; subst hv; have K1 := Mm.hid k1; have K3 := Mm.hid k3; have K4 := Mm.hid (k4_of k4); clear k1 k2 k3 k4))
      have GA := Mm.hid (Fr.grown K3.out)
      have R1a := Mm.hid (GA.out.own R1.out fun b hb e => AP.out b hb e)
      have f2 : wa.cell? (ad.add k) = some (.int .i64 x) := by
        obtain ⟨_, he, _, f⟩ := (Rd.of_own R1a.out).cell (iL_get HX.out)
        cases he
        exact f
      have FA : Hid (Fr (fun _ => False) w wa) := FQ.out.trans GA.out fun j hj e => by have := (own_lt HF2.out e).1; omega
      have AP2 : Hid (∀ b, (Value.slice (some ad) m c1).ownBlock = some b → (Value.slice A3 (k + 1) c3).ownBlock ≠ some b) := fun b hb e => by
        rcases K4.out b e with h | h
        · exact AP.out b hb h
        · have := (own_lt R1.out hb).2; omega
      have Y1 : Hid (wa.ownsRow w.heap.size 3 1 (.slice A3 (k + 1) c3) (k + 1) (iL ((cl (tabF tb) L0 (k + 1)).take (k + 1)))) := by
        show World.ownsRow _ _ _ _ _ _ _
        rw [← ET.out, ← iL_snoc]
        exact K1.out
      have hm1' := HM.out
      clear f1 R1 AP FQ HF2 K1 K3 K4 GA SZ
      by_cases hin : 0 ≤ x ∧ x < (N : Int)
      · obtain ⟨i, hi⟩ : ∃ i : Nat, x = (i : Nat) := ⟨x.toNat, by omega⟩
        subst hi
        have hiN : i < N := by omega
        obtain ⟨xs, hxs⟩ : ∃ xs, tb[i]? = some xs := ⟨_, List.getElem?_eq_getElem (by rw [T.out.len]; exact hiN)⟩
        have EX : Hid (tabF tb (i : Nat) = xs) := tabF_row rfl hxs
        obtain ⟨adt, Ai, ci, eA, t0, hci, RI0⟩ := T.out.at hxs
        subst eA
        have t1 := FA.out.cell t0 fun h => h
        have RI := FA.out.rd RI0 fun _ _ h => h
        clear t0
        obtain ⟨q, hq⟩ : ∃ q, xs.length = q := ⟨_, rfl⟩
        have hq9 : q ≤ 1099511627776 := by have := HLT.out (i : Nat); rw [EX.out, hq] at this; exact this
        rw [hq] at RI RI0 t1 hci
        have WC := Mm.hid (with_any w.heap.size (some ad) m c1 (cl (tabF tb) L0 k) Ai q ci xs wa R1a.out RI (fun hp ad' ha e => by
          have h1 := own_lt R1a.out e
          obtain ⟨ad2, e2, hl2, _⟩ := RI0.2 hp
          rw [ha] at e2
          injection e2 with e2
          subst e2
          omega) FA.out.size hc1 (by omega))
        clear RI RI0 hxs hq
        go_wp2_with (go_at_call 40; refine WC.out.mono ?_; rintro e w2 ⟨A4, m4, c4, rfl, hc4, hm4, h4⟩)
        have hm5 : (cl (tabF tb) L0 (k + 1)).length = m4 := by rw [ES.out, EX.out]; exact hm4
        have hkm4 : k + 1 ≤ m4 := by
          rw [← hm5]
          have := (cl_succ (f := tabF tb) (l0 := L0) k).length_le
          rw [hm1'] at this
          omega
        have NX : Hid (TwoI w.heap.size A4 m4 c4 A3 (k + 1) c3 (cl (tabF tb) L0 (k + 1)) ((cl (tabF tb) L0 (k + 1)).take (k + 1)) w w2) := by
          obtain ⟨r4, f4, k4⟩ := h4.out
          refine ⟨by rw [ES.out, EX.out]; exact r4, f4.own Y1.out fun b hb e => AP2.out b e hb, fun b hb e => ?_, FA.out.trans f4 fun j hj e => by have := (own_lt R1a.out e).1; omega⟩
          rcases k4 b hb with h | h
          · exact AP2.out b h e
          · have := (own_lt Y1.out e).2; omega
        go_roundw
        case rel => exact ⟨k + 1, m4, A4, c4, A3, c3, hkm4, by go_num, rfl, hc4, rfl, hc3, hm5, NX⟩
        case measure => simp [intOf] <;> omega
      · have EX : Hid (tabF tb x = []) := tabF_out (by rw [T.out.len]; omega)
        have EC : Hid (cl (tabF tb) L0 (k + 1) = cl (tabF tb) L0 k) := by show _ = _; rw [ES.out, EX.out]; rfl
        have NX : Hid ((cl (tabF tb) L0 (k + 1)).length = m ∧ TwoI w.heap.size (some ad) m c1 A3 (k + 1) c3 (cl (tabF tb) L0 (k + 1)) ((cl (tabF tb) L0 (k + 1)).take (k + 1)) w wa) := by
          refine ⟨by rw [EC.out]; exact hm1', by rw [EC.out]; exact R1a.out, Y1.out, AP2.out, FA.out⟩
        by_cases h0 : 0 ≤ x
        · have hge : ¬ x < (N : Int) := by omega
          go_wp2_with fail
          go_roundw
          case rel => exact ⟨k + 1, m, some ad, c1, A3, c3, by omega, by go_num, rfl, hc1, rfl, hc3, NX.out.1, Mm.hid NX.out.2⟩
          case measure => simp [intOf] <;> omega
        · go_wp2_with fail
          go_roundw
          case rel => exact ⟨k + 1, m, some ad, c1, A3, c3, by omega, by go_num, rfl, hc1, rfl, hc3, NX.out.1, Mm.hid NX.out.2⟩
          case measure => simp [intOf] <;> omega
    · have hkm : k = m := by omega
      subst hkm
      have QH := Mm.hid HQ.out
      have hty : (cl (tabF tb) L0 k).take k = cl (tabF tb) L0 k := List.take_of_length_le (by rw [hm]; exact Nat.le_refl _)
      rw [hty] at QH
      have HM := Mm.hid hm
      clear HQ hty hm
      go_wp2_with fail
      go_ret2
      exact ⟨A1, k, c1, A2, c2, _, rfl, hc1, hc2, HM.out, ⟨k, rfl, by rw [HM.out]; exact Nat.le_refl _⟩, QH.out⟩
end Go.Proofs.Ythjldlgmfplngaa

/- Walks: arrays put on a list, each once: the closure of Close. -/
import Derived.Test.YthjldlgmfplngaaKd
import Derived.Test.YthjldlgmfplngaaLines
namespace Go.Proofs.Ythjldlgmfplngaa
open Go.RowKit Go.Mm Go.Maps Go.Reach Go.WideMaps
theorem info42e : (Try.prog.info? 42).map (fun i => (i.zero, i.size, i.bytes)) = some (some (.agg #[.string ByteArray.empty, .string ByteArray.empty]), 2, 32) := by kernel_rfl
/-- what Close keeps: the map in a box, the list in a box -/
structure ClSe (base bs bl mb : Nat) (v : Value) (l : List ByteArray) (w : World) : Prop where
  box : Blk w bs 70 #[.map (some mb)]
  lst : Blk w bl 39 #[v]
  map : MapB Try.prog 42 (κ2 gE) w mb l.length (setM l)
  row : w.ownsRow base 42 2 v l.length (r2 gE l)
  ge : base ≤ bs ∧ base ≤ bl ∧ base ≤ mb
section
variable {base bs bl mb : Nat} {v v1 : Value} {l : List ByteArray} {w w' w1 : World} {T : Nat → Prop}
theorem ClSe.fr (h : ClSe base bs bl mb v l w) (hf : Fr T w w') (hT : ∀ k, T k → ¬ ClC bs bl mb v k) : ClSe base bs bl mb v l w' :=
  ⟨hf.blk h.box fun ht => hT _ ht (.inl rfl), hf.blk h.lst fun ht => hT _ ht (.inr (.inl rfl)), h.map.fr hf fun ht => hT _ ht (.inr (.inr (.inl rfl))), hf.own h.row fun _ hb ht => hT _ ht (.inr (.inr (.inr hb))), h.ge⟩
theorem ClSe.frn (h : ClSe base bs bl mb v l w) (hf : Fr (fun _ => False) w w') : ClSe base bs bl mb v l w' := h.fr hf fun _ h => h.elim
theorem ClSe.cge (h : ClSe base bs bl mb v l w) : ∀ k, ClC bs bl mb v k → base ≤ k := by
  rintro k (rfl | rfl | rfl | hk)
  · exact h.ge.1
  · exact h.ge.2.1
  · exact h.ge.2.2
  · exact (own_lt h.row hk).1
theorem ClSe.clt (h : ClSe base bs bl mb v l w) : ∀ k, ClC bs bl mb v k → k < w.heap.size := by
  rintro k (rfl | rfl | rfl | hk)
  · exact h.box.lt
  · exact h.lst.lt
  · exact h.map.lt
  · exact (own_lt h.row hk).2
/-- the map knows a name more, the list has grown -/
theorem ClSe.grow (h : ClSe base bs bl mb v l w) {y : ByteArray} {wa wb : World} (m1 : MapB Try.prog 42 (κ2 gE) wa mb (l.length + 1) (upd (setM l) y (.agg #[]))) (g1 : w.grownBy wa (some mb)) (r1 : wb.ownsRow base 42 2 v1 (l.length + 1) (r2 gE l ++ [.string y, .string (gE y)])) (g2 : wa.grownBy wb v.ownBlock) (k4 : ∀ k, v1.ownBlock = some k → v.ownBlock = some k ∨ wa.heap.size ≤ k) :
    ClSe base bs bl mb v1 (l ++ [y]) (wb.setCell ⟨bl, 0, none⟩ v1) ∧ Fr (ClC bs bl mb v) w (wb.setCell ⟨bl, 0, none⟩ v1) ∧ (∀ k, v1.ownBlock = some k → v.ownBlock = some k ∨ w.heap.size ≤ k) := by
  have f1 : Fr (fun k => some mb = some k) w wa := Fr.grown g1
  have f2 : Fr (fun k => v.ownBlock = some k) wa wb := Fr.grown g2
  have f3 := Fr.setCell wb ⟨bl, 0, none⟩ v1
  have nb : mb ≠ bs := h.map.ne_blk h.box
  have nl : mb ≠ bl := h.map.ne_blk h.lst
  have nv : v.ownBlock ≠ some mb := h.map.ne_own h.row
  have vb : v.ownBlock ≠ some bs := own_ne h.row h.box (by decide)
  have vl : v.ownBlock ≠ some bl := own_ne h.row h.lst (by decide)
  have sl : bs ≠ bl := blk_ne h.box h.lst (by decide)
  have B1 := f2.blk (f1.blk h.box (fun e => nb (by injection e))) vb
  have L1 := f2.blk (f1.blk h.lst (fun e => nl (by injection e))) vl
  have M2 := m1.fr f2 nv
  have M3 := M2.fr f3 nl
  refine ⟨⟨f3.blk B1 sl, L1.set 0 v1, ?_, ?_, h.ge⟩, ?_, fun k hk => ?_⟩
  · rw [show (l ++ [y]).length = l.length + 1 from by simp, ← setM_put]; exact M3
  · rw [show (l ++ [y]).length = l.length + 1 from by simp, ← r2_snoc]
    exact f3.own r1 fun k hk (e : k = bl) => own_ne r1 L1 (by decide) (e ▸ hk)
  · exact ((f1.mono (T := ClC bs bl mb v) fun k e => .inr (.inr (.inl (by injection e with e; exact e.symm)))).trans f2 fun k _ e => .inr (.inr (.inr e))).trans f3 fun k _ (e : k = bl) => .inr (.inl e)
  · rcases k4 k hk with e | e
    · exact .inl e
    · exact .inr (Nat.le_trans f1.size e)
end
def PutEe (base bs bl mb : Nat) (v : Value) (l : List ByteArray) (w : World) (e : Ending) (w' : World) : Prop :=
  e = .returned (.tuple #[]) ∧ ∃ v', ClSe base bs bl mb v' l w' ∧ (∀ k, v'.ownBlock = some k → v.ownBlock = some k ∨ w.heap.size ≤ k) ∧ Fr (ClC bs bl mb v) w w'
/-- the list so far -/
structure PutRe (base bs bl mb : Nat) (v : Value) (l : List ByteArray) (w : World) (ls : List ByteArray) (wr : World) : Prop where mk ::
  out : ∃ v', ClSe base bs bl mb v' ls wr ∧ (∀ k, v'.ownBlock = some k → v.ownBlock = some k ∨ w.heap.size ≤ k) ∧ Fr (ClC bs bl mb v) w wr
set_option maxRecDepth 100000 in
set_option maxHeartbeats 1000000 in
theorem pute_any (base bs bl mb : Nat) (v : Value) (l ys : List ByteArray) (A : Option Addr) (n c : Nat) (w : World) (h : ClSe base bs bl mb v l w) (hr : Rd w A n 2 (r2 gE ys)) (hn : ys.length = n) (hA : 0 < n → ∀ ad, A = some ad → ¬ ClC bs bl mb v ad.block) (hy : ∀ y ∈ ys, y.size ≤ maxLen) (hb : base ≤ w.heap.size) (hn9 : n ≤ 140737488355328) (hl : (puts l ys).length * 32 ≤ 140737488355328) :
    Calls Try.prog 44 #[.slice A n c, .pointer (some ⟨bs, 0, none⟩), .pointer (some ⟨bl, 0, none⟩)] w (PutEe base bs bl mb v (puts l ys) w) := by
  have R := Mm.hid hr
  have LN := Mm.hid hn
  have HA := Mm.hid hA
  have HY := Mm.hid hy
  have HB := Mm.hid hb
  have HL := Mm.hid hl
  have ST : Hid (PutRe base bs bl mb v l w (puts l (ys.take 0)) w) := ⟨v, h, fun _ h => .inl h, Fr.refl _ _⟩
  clear h hr hA hy hb hn hl
  go_enter Try.func44, Try.ntmps44
  go_wp2_with fail
  go_loopw [5, 6, 7, 10] (fun _ _ _ i wr => ∃ k : Nat, k ≤ n ∧ i = .int .i64 (k : Nat) ∧ Hid (PutRe base bs bl mb v l w (puts l (ys.take k)) wr)) (fun _ _ _ i _ => n - (intOf i).toNat)
  case atStart => exact ⟨0, Nat.zero_le _, rfl, ST.out⟩
  case round =>
    obtain ⟨k, hk, rfl, HK⟩ := hrel
    clear ST
    by_cases hlt : k < n
    · obtain ⟨y, hy⟩ : ∃ y, ys[k]? = some y := ⟨_, List.getElem?_eq_getElem (by rw [LN.out]; exact hlt)⟩
      obtain ⟨v', c', o', f'⟩ := HK.out.out
      obtain ⟨ad, rfl, _, f0, f1⟩ := rd_pr (f'.rd R.out (HA.out (by omega))) (by rw [List.length_map, LN.out]) (r2_at gE hy)
      have HS : Hid (y.size ≤ maxLen) := HY.out y (List.mem_of_getElem? hy)
      have PT := Mm.hid (puts_take (l := l) hy)
      have hpl : (puts l (ys.take (k + 1))).length * 32 ≤ 140737488355328 := by
        have h1 : puts l (ys.take (k + 1)) <+: puts l ys := by
          have := puts_append l (ys.take (k + 1)) (ys.drop (k + 1))
          rw [List.take_append_drop] at this
          rw [this]
          exact puts_prefix _ _
        have := h1.length_le
        have := HL.out
        omega
      rw [PT.out] at hpl
      generalize puts l (ys.take k) = ls at *
      have FH := Mm.hid f'
      have CH := Mm.hid c'
      have O := Mm.hid o'
      clear c' o' f' hy HK
      go_upto_region 3 with (fail)
      obtain ⟨q, hq⟩ : ∃ q, wr.heap.size = q := ⟨_, rfl⟩
      obtain ⟨w5, hw5⟩ : ∃ w5, wr.alloc (.cells #[.string y, .string (gE y)] 42) = w5 := ⟨_, rfl⟩
      have B5 : Hid (Blk w5 q 42 #[.string y, .string (gE y)]) := by show Blk _ _ _ _; rw [← hw5, ← hq]; exact Blk.new wr _ _
      have f5 : Fr (fun _ => False) wr w5 := by rw [← hw5]; exact Fr.alloc (fun _ => False) wr _
      have C5 := Mm.hid (CH.out.frn f5)
      have F5 := Mm.hid (FH.out.trans f5 fun _ _ h => h.elim)
      rw [hw5, hq]
      clear hw5 hq f0 f1 f5 FH CH
      have e0 : w5.cell? ⟨q, 0, none⟩ = some (.string y) := B5.out.cell 0
      have e1 : w5.cell? ⟨q, 1, none⟩ = some (.string (gE y)) := B5.out.cell 1
      have d0 : w5.cell? ⟨bs, 0, none⟩ = some (.map (some mb)) := C5.out.box.cell 0
      have KY := Mm.hid (κ2_42 gE gE_sz HS.out)
      have lk := C5.out.map.look_ok law42 Try.underlying70 (zero62 w5) KY.out
      have f6 := Fr.alloc (fun _ => False) w5 (.cells #[] 62)
      have C6 := Mm.hid (C5.out.frn f6)
      have F6 := Mm.hid (F5.out.trans f6 fun _ _ h => h.elim)
      by_cases hin : y ∈ ls
      · have SM : (setM ls y).isSome = true ∧ (setM ls y).getD (.agg #[]) = .agg #[] := by unfold setM; rw [memO_in hin]; exact ⟨rfl, rfl⟩
        rw [SM.1, SM.2] at lk
        have PE : Hid (put1 ls y = ls) := put1_in hin
        have FN : Hid (PutRe base bs bl mb v l w (puts l (ys.take (k + 1))) (w5.alloc (.cells #[] 62))) := by
          show PutRe _ _ _ _ _ _ _ _ _
          rw [PT.out, PE.out]
          exact ⟨v', C6.out, O.out, F6.out⟩
        clear hin SM f6
        go_wp2_with fail
        go_roundw
        case rel => exact ⟨k + 1, by omega, by go_num, FN.out⟩
        case measure => simp [intOf] <;> omega
      · have SM : (setM ls y).isSome = false ∧ (setM ls y).getD (.agg #[]) = .agg #[] := by unfold setM; rw [memO_out hin]; exact ⟨rfl, rfl⟩
        rw [SM.1, SM.2] at lk
        have PE : Hid (put1 ls y = ls ++ [y]) := put1_out hin
        rw [PE.out, List.length_append, List.length_singleton] at hpl
        obtain ⟨m, hm⟩ : ∃ m, ls.length = m := ⟨_, rfl⟩
        obtain ⟨A1, c1, rfl, hc1, _, _⟩ := own_slice C6.out.row
        have HM := Mm.hid hm
        rw [hm] at hc1 hpl
        have B6 := Mm.hid (f6.blk B5.out fun h => h)
        have g0 : (w5.alloc (.cells #[] 62)).cell? ⟨q, 0, none⟩ = some (.string y) := B6.out.cell 0
        have g1 : (w5.alloc (.cells #[] 62)).cell? ⟨q, 1, none⟩ = some (.string (gE y)) := B6.out.cell 1
        have d1 : (w5.alloc (.cells #[] 62)).cell? ⟨bs, 0, none⟩ = some (.map (some mb)) := C6.out.box.cell 0
        obtain ⟨wa, hrun, m1, gr1⟩ := C6.out.map.put law42 (κ2_inj gE gE_sz) (κ2_lit gE) Try.underlying70 (by rw [hm]; unfold maxLen; omega) KY.out (.agg #[])
        have M1 := Mm.hid m1
        have G1 := Mm.hid gr1
        have fa := Fr.grown gr1
        have BA := Mm.hid (fa.blk B6.out fun e => C6.out.map.ne_blk B6.out (by injection e))
        have LA := Mm.hid (fa.blk C6.out.lst fun e => C6.out.map.ne_blk C6.out.lst (by injection e))
        have RA := Mm.hid (fa.own C6.out.row fun b hb e => C6.out.map.ne_own C6.out.row (hb.trans e.symm))
        have SA : Hid (base ≤ wa.heap.size) := by show _ ≤ _; have := F6.out.size; have := HB.out; have := fa.size; omega
        have h0 : wa.cell? ⟨q, 0, none⟩ = some (.string y) := BA.out.cell 0
        have h1 : wa.cell? ⟨q, 1, none⟩ = some (.string (gE y)) := BA.out.cell 1
        have LB := LA.out
        rw [hm] at LB
        have RB := RA.out
        rw [hm] at RB
        have RBH := Mm.hid RB
        have LBH := Mm.hid LB
        have e3 : wa.cell? ⟨bl, 0, none⟩ = some (.slice A1 m c1) := LB.cell 0
        have HS1 : Hid (∀ u ∈ (#[.string y, .string (gE y)] : Array Value).toList, u.oneCell' = true) := by intro u hu; simp at hu; rcases hu with rfl | rfl <;> rfl
        have HL1 : Hid ((m + 1) * 32 ≤ 140737488355328) := hpl
        clear hin SM f6 hm m1 gr1 fa LB RB
        go_wp2_with (at_builtin; go_must (refine wp_ape1 base rfl (.tmp 25) (.tmp 27) 39 42 (.agg #[.string ByteArray.empty, .string ByteArray.empty]) 2 32 #[.string y, .string (gE y)] rfl Try.underlying39 info42e rfl (by decide) (by decide) (.slice A1 m c1) m _ rfl rfl rfl HS1.out RBH.out (Below.refl _ _) SA.out HL1.out ?_; intro v1 wb k1 k2 k3 k4; have K1 := Mm.hid k1; have K3 := Mm.hid k3; have K4 := Mm.hid (k4_of k4); have LB := Mm.hid ((Fr.grown k3).blk LBH.out (fun e => own_ne RBH.out LBH.out (by decide) e)); have e2 : wb.cell? ⟨bl, 0, none⟩ = some (.slice A1 m c1) := LB.out.cell 0; have e3' : wb.frozen? ⟨bl, 0, none⟩ = false := LB.out.free 0; clear k1 k2 k3 k4; obtain ⟨A2, c2, hv2, hc2, _, _⟩ := own_slice K1.out; subst hv2))
        have FN : Hid (PutRe base bs bl mb v l w (puts l (ys.take (k + 1))) (wb.setCell ⟨bl, 0, none⟩ (.slice A2 (m + 1) c2))) := by
          show PutRe _ _ _ _ _ _ _ _ _
          rw [PT.out, PE.out]
          have hcc := C6.out
          have hO := O.out
          have hK1 := K1.out
          have hK3 := K3.out
          have hK4 := K4.out
          rw [← HM.out] at hK1 hK3 hK4 ⊢
          obtain ⟨g1, g2, g3⟩ := hcc.grow M1.out G1.out hK1 hK3 hK4
          refine ⟨_, g1, fun j hj => ?_, F6.out.trans g2 fun j hj hc => clc_sub hO j hj hc⟩
          rcases g3 j hj with e | e
          · exact hO j e
          · exact .inr (Nat.le_trans F6.out.size e)
        go_roundw
        case rel => exact ⟨k + 1, by omega, by go_num, FN.out⟩
        case measure => simp [intOf] <;> omega
    · obtain ⟨v', c', o', f'⟩ := HK.out.out
      have FIN : Hid (PutEe base bs bl mb v (puts l ys) w (.returned (.tuple #[])) wr) := by
        have e : ys.take k = ys := List.take_of_length_le (by rw [LN.out]; omega)
        rw [e] at c'
        exact ⟨rfl, v', c', o', f'⟩
      clear c' o' f' HK
      go_wp2
      go_end0
      exact FIN.out
end Go.Proofs.Ythjldlgmfplngaa

/- Walks: names put on a list, each once: the closure of Close. -/
import Derived.Test.YthjldlgmfplngaaProg
import Derived.Test.YthjldlgmfplngaaMp
import Derived.Test.YthjldlgmfplngaaCl
import Derived.Test.YthjldlgmfplngaaFam2
import Derived.Outline
import Derived.BigQuiet
import Derived.Deep.QuietTactic
import Derived.Deep.RegionHeld3
import Derived.Maps.OwnOps
namespace Go.Proofs.Ythjldlgmfplngaa
open Go.RowKit Go.Mm Go.Maps Go.Reach Go.WideMaps
instance decBA : DecidableEq ByteArray := fun a b => decidable_of_iff (a.data = b.data) ⟨fun h => by cases a; cases b; exact congrArg _ h, fun h => h ▸ rfl⟩
theorem law9 : Keyed Try.prog 9 := string_keyed Try.underlying9
theorem info9 : (Try.prog.info? 9).map (fun i => (i.zero, i.size, i.bytes)) = some (some (.string ByteArray.empty), 1, 16) := by kernel_rfl
theorem zero62 (w : World) : (zeroValue 62).run Try.prog w = .ok (.agg #[]) w := by kernel_rfl
def strs (l : List ByteArray) : List Value := l.map Value.string
theorem strs_get {l : List ByteArray} {j : Nat} {x : ByteArray} (h : l[j]? = some x) : (strs l)[j]? = some (.string x) := by simp [strs, h]
theorem strs_len (l : List ByteArray) : (strs l).length = l.length := by simp [strs]
theorem strs_snoc (l : List ByteArray) (x : ByteArray) : strs l ++ [.string x] = strs (l ++ [x]) := by simp [strs]
theorem strs_one (l : List ByteArray) : ∀ u ∈ strs l, u.oneCell' = true := by
  intro u hu
  obtain ⟨x, _, rfl⟩ := List.mem_map.1 hu
  rfl
/-- whether a name is on the list, as the map tells it -/
def setM (l : List ByteArray) : ByteArray → Option Value := memO l (.agg #[])
theorem setM_put (l : List ByteArray) (y : ByteArray) : upd (setM l) y (.agg #[]) = setM (l ++ [y]) := by
  funext x
  unfold upd setM
  rw [memO_snoc]
/-- what Close keeps: the map in a box, the list in a box -/
structure ClS (base bs bl mb : Nat) (v : Value) (l : List ByteArray) (w : World) : Prop where
  box : Blk w bs 68 #[.map (some mb)]
  lst : Blk w bl 33 #[v]
  map : MapB Try.prog 9 κs w mb l.length (setM l)
  row : w.ownsRow base 9 1 v l.length (strs l)
  ge : base ≤ bs ∧ base ≤ bl ∧ base ≤ mb
def ClC (bs bl mb : Nat) (v : Value) (k : Nat) : Prop := k = bs ∨ k = bl ∨ k = mb ∨ v.ownBlock = some k
section
variable {base bs bl mb : Nat} {v v1 : Value} {l : List ByteArray} {w w' w1 : World} {T : Nat → Prop}
theorem ClS.fr (h : ClS base bs bl mb v l w) (hf : Fr T w w') (hT : ∀ k, T k → ¬ ClC bs bl mb v k) : ClS base bs bl mb v l w' :=
  ⟨hf.blk h.box fun ht => hT _ ht (.inl rfl), hf.blk h.lst fun ht => hT _ ht (.inr (.inl rfl)), h.map.fr hf fun ht => hT _ ht (.inr (.inr (.inl rfl))), hf.own h.row fun _ hb ht => hT _ ht (.inr (.inr (.inr hb))), h.ge⟩
theorem ClS.below (h : ClS base bs bl mb v l w) (hb : Below w.heap.size w w') : ClS base bs bl mb v l w' := h.fr (Fr.of_below hb) fun _ h => h.elim
theorem ClS.cge (h : ClS base bs bl mb v l w) : ∀ k, ClC bs bl mb v k → base ≤ k := by
  rintro k (rfl | rfl | rfl | hk)
  · exact h.ge.1
  · exact h.ge.2.1
  · exact h.ge.2.2
  · exact (own_lt h.row hk).1
theorem ClS.clt (h : ClS base bs bl mb v l w) : ∀ k, ClC bs bl mb v k → k < w.heap.size := by
  rintro k (rfl | rfl | rfl | hk)
  · exact h.box.lt
  · exact h.lst.lt
  · exact h.map.lt
  · exact (own_lt h.row hk).2
/-- the map knows a name more, the list has grown -/
theorem ClS.grow (h : ClS base bs bl mb v l w) {y : ByteArray} {wa wb : World} (m1 : MapB Try.prog 9 κs wa mb (l.length + 1) (upd (setM l) y (.agg #[]))) (g1 : w.grownBy wa (some mb)) (r1 : wb.ownsRow base 9 1 v1 (l.length + 1) (strs l ++ [.string y])) (g2 : wa.grownBy wb v.ownBlock) (k4 : ∀ k, v1.ownBlock = some k → v.ownBlock = some k ∨ wa.heap.size ≤ k) :
    ClS base bs bl mb v1 (l ++ [y]) (wb.setCell ⟨bl, 0, none⟩ v1) ∧ Fr (ClC bs bl mb v) w (wb.setCell ⟨bl, 0, none⟩ v1) ∧ (∀ k, v1.ownBlock = some k → v.ownBlock = some k ∨ w.heap.size ≤ k) := by
  have f1 : Fr (fun k => some mb = some k) w wa := Fr.grown g1
  have f2 : Fr (fun k => v.ownBlock = some k) wa wb := Fr.grown g2
  have f3 := Fr.setCell wb ⟨bl, 0, none⟩ v1
  have nb : mb ≠ bs := h.map.ne_blk h.box
  have nl : mb ≠ bl := h.map.ne_blk h.lst
  have nv : v.ownBlock ≠ some mb := h.map.ne_own h.row
  have vb : v.ownBlock ≠ some bs := own_ne h.row h.box (by decide)
  have vl : v.ownBlock ≠ some bl := own_ne h.row h.lst (by decide)
  have sl : bs ≠ bl := blk_ne h.box h.lst (by decide)
  have B1 := f2.blk (f1.blk h.box (fun e => nb (by injection e))) vb
  have L1 := f2.blk (f1.blk h.lst (fun e => nl (by injection e))) vl
  have M2 := m1.fr f2 nv
  have M3 := M2.fr f3 nl
  have hsz : wa.heap.size ≤ wb.heap.size := f2.size
  refine ⟨⟨f3.blk B1 sl, L1.set 0 v1, ?_, ?_, h.ge⟩, ?_, fun k hk => ?_⟩
  · rw [show (l ++ [y]).length = l.length + 1 from by simp, ← setM_put]; exact M3
  · rw [show (l ++ [y]).length = l.length + 1 from by simp, ← strs_snoc]
    exact f3.own r1 fun k hk (e : k = bl) => own_ne r1 L1 (by decide) (e ▸ hk)
  · exact ((f1.mono (T := ClC bs bl mb v) fun k e => .inr (.inr (.inl (by injection e with e; exact e.symm)))).trans f2 fun k _ e => .inr (.inr (.inr e))).trans f3 fun k _ (e : k = bl) => .inr (.inl e)
  · rcases k4 k hk with e | e
    · exact .inl e
    · exact .inr (Nat.le_trans f1.size e)
end
def PutE (base bs bl mb : Nat) (v : Value) (l : List ByteArray) (w : World) (e : Ending) (w' : World) : Prop :=
  e = .returned (.tuple #[]) ∧ ∃ v', ClS base bs bl mb v' l w' ∧ (∀ k, v'.ownBlock = some k → v.ownBlock = some k ∨ w.heap.size ≤ k) ∧ Fr (ClC bs bl mb v) w w'
/-- the list so far -/
structure PutR (base bs bl mb : Nat) (v : Value) (l : List ByteArray) (w : World) (ls : List ByteArray) (wr : World) : Prop where mk ::
  out : ∃ v', ClS base bs bl mb v' ls wr ∧ (∀ k, v'.ownBlock = some k → v.ownBlock = some k ∨ w.heap.size ≤ k) ∧ Fr (ClC bs bl mb v) w wr
theorem clc_sub {bs bl mb : Nat} {v v' : Value} {w : World} (h : ∀ k, v'.ownBlock = some k → v.ownBlock = some k ∨ w.heap.size ≤ k) : ∀ k, k < w.heap.size → ClC bs bl mb v' k → ClC bs bl mb v k := by
  rintro k hk (e | e | e | e)
  · exact .inl e
  · exact .inr (.inl e)
  · exact .inr (.inr (.inl e))
  · rcases h k e with e | e
    · exact .inr (.inr (.inr e))
    · omega
theorem puts_take {l ys : List ByteArray} {k : Nat} {y : ByteArray} (h : ys[k]? = some y) : puts l (ys.take (k + 1)) = put1 (puts l (ys.take k)) y := by
  rw [List.take_add_one, h, Option.toList_some, puts_snoc]
theorem puts_len_le (l ys : List ByteArray) : (puts l ys).length ≤ l.length + ys.length := by
  induction ys generalizing l with
  | nil => simp [puts]
  | cons y ys ih =>
    rw [puts_cons]
    have := ih (put1 l y)
    have h2 := put1_len l y
    simp only [List.length_cons]
    omega
theorem k4_of {v v1 : Value} {n : Nat} {P : Nat → Prop} (h : v1.ownBlock = v.ownBlock ∨ ∃ b, v1.ownBlock = some b ∧ n ≤ b ∧ P b) : ∀ k, v1.ownBlock = some k → v.ownBlock = some k ∨ n ≤ k := by
  intro k hk
  rcases h with h | ⟨b, h, hb, _⟩
  · exact .inl (h ▸ hk)
  · rw [hk] at h; injection h with h; exact .inr (h ▸ hb)
set_option maxRecDepth 100000 in
set_option maxHeartbeats 1000000 in
theorem put_any (base bs bl mb : Nat) (v : Value) (l ys : List ByteArray) (A : Option Addr) (n c : Nat) (w : World) (h : ClS base bs bl mb v l w) (hr : Rd w A n 1 (strs ys)) (hA : 0 < n → ∀ ad, A = some ad → ¬ ClC bs bl mb v ad.block) (hy : ∀ y ∈ ys, y.size ≤ maxLen) (hb : base ≤ w.heap.size) (hl : (l.length + ys.length) * 16 ≤ 140737488355328) :
    Calls Try.prog 43 #[.slice A n c, .pointer (some ⟨bs, 0, none⟩), .pointer (some ⟨bl, 0, none⟩)] w (PutE base bs bl mb v (puts l ys) w) := by
  have R := Mm.hid hr
  have hn : ys.length = n := by have := hr.1; rw [strs_len] at this; omega
  have LN := Mm.hid hn
  have HA := Mm.hid hA
  have HY := Mm.hid hy
  have HB := Mm.hid hb
  have ST : Hid (PutR base bs bl mb v l w (puts l (ys.take 0)) w) := ⟨v, h, fun _ h => .inl h, Fr.refl _ _⟩
  have hL : Hid ((l.length + n) * 16 ≤ 140737488355328) := by show _ ≤ _; rw [← hn]; exact hl
  have hn9 : n ≤ 140737488355328 := by omega
  clear h hr hA hy hb hn hl
  go_enter Try.func43, Try.ntmps43
  go_wp2_with fail
  go_loopw [5, 6, 7, 10] (fun _ _ _ i wr => ∃ k : Nat, k ≤ n ∧ i = .int .i64 (k : Nat) ∧ Hid (PutR base bs bl mb v l w (puts l (ys.take k)) wr)) (fun _ _ _ i _ => n - (intOf i).toNat)
  case atStart => exact ⟨0, Nat.zero_le _, rfl, ST.out⟩
  case round =>
    obtain ⟨k, hk, rfl, HK⟩ := hrel
    clear ST
    by_cases hlt : k < n
    · obtain ⟨y, hy⟩ : ∃ y, ys[k]? = some y := ⟨_, List.getElem?_eq_getElem (by rw [LN.out]; exact hlt)⟩
      obtain ⟨v', c', o', f'⟩ := HK.out.out
      obtain ⟨ad, rfl, _, f1⟩ := (f'.rd R.out (HA.out (by omega))).cell (strs_get hy)
      have HS : Hid (y.size ≤ maxLen) := HY.out y (List.mem_of_getElem? hy)
      have PT := Mm.hid (puts_take (l := l) hy)
      have hpl : (puts l (ys.take k)).length ≤ l.length + k := by
        have := puts_len_le l (ys.take k)
        rw [List.length_take] at this
        omega
      generalize puts l (ys.take k) = ls at *
      have C := Mm.hid c'
      have O := Mm.hid o'
      have F := Mm.hid f'
      have d0 : wr.cell? ⟨bs, 0, none⟩ = some (.map (some mb)) := c'.box.cell 0
      have KY := Mm.hid (keyOf_string_mk (P := Try.prog) (k := 9) Try.underlying9 HS.out)
      clear c' o' f' hy HK
      by_cases hin : y ∈ ls
      · have SM : Hid ((setM ls y).isSome = true ∧ (setM ls y).getD (.agg #[]) = .agg #[]) := by unfold setM; rw [memO_in hin]; exact ⟨rfl, rfl⟩
        have PE : Hid (put1 ls y = ls) := put1_in hin
        clear hin
        go_wp2_with (at_lookup; go_must (refine wp_look_ok (κ := κs) rfl _ _ 68 rfl 62 law9 Try.underlying68 (zero62 _) C.out.map rfl _ rfl y KY.out (.agg #[]) SM.out.2 true SM.out.1 ?_))
        have FN : Hid (PutR base bs bl mb v l w (puts l (ys.take (k + 1))) (wr.alloc (.cells #[] 62))) := by
          show PutR _ _ _ _ _ _ _ _ _
          rw [PT.out, PE.out]
          exact ⟨v', C.out.below ((Below.refl _ _).alloc (Nat.le_refl _) _), O.out, F.out.trans (Fr.alloc (fun _ => False) wr _) fun _ _ h => h.elim⟩
        go_roundw
        case rel => exact ⟨k + 1, by omega, by go_num, FN.out⟩
        case measure => simp [intOf] <;> omega
      · have SM : Hid ((setM ls y).isSome = false ∧ (setM ls y).getD (.agg #[]) = .agg #[]) := by unfold setM; rw [memO_out hin]; exact ⟨rfl, rfl⟩
        have PE : Hid (put1 ls y = ls ++ [y]) := put1_out hin
        clear hin
        have C1 := Mm.hid (C.out.below ((Below.refl _ _).alloc (Nat.le_refl _) (.cells #[] 62)))
        have d1 : (wr.alloc (.cells #[] 62)).cell? ⟨bs, 0, none⟩ = some (.map (some mb)) := C1.out.box.cell 0
        obtain ⟨m, hm⟩ : ∃ m, ls.length = m := ⟨_, rfl⟩
        have hrow := C1.out.row
        obtain ⟨A1, c1, rfl, hc1, _, _⟩ := own_slice hrow
        have HR := Mm.hid hrow
        rw [hm] at HR hc1 hpl
        have HM := Mm.hid hm
        have hmx : m < maxLen := by have := hL.out; unfold maxLen; omega
        have hl16 : Hid ((m + 1) * 16 ≤ 140737488355328) := by show _ ≤ _; have := hL.out; omega
        have hszr : Hid (base ≤ (wr.alloc (.cells #[] 62)).heap.size) := by show _ ≤ _; have := F.out.size; have := HB.out; simp; omega
        have MX := Mm.hid hmx
        have CM : Hid (MapB Try.prog 9 κs (wr.alloc (.cells #[] 62)) mb m (setM ls)) := by show MapB _ _ _ _ _ _ _; rw [← hm]; exact C1.out.map
        have LST : Hid (Blk (wr.alloc (.cells #[] 62)) bl 33 #[.slice A1 m c1]) := by
          have q := C1.out.lst
          rw [hm] at q
          exact q
        have nv := C1.out.map.ne_own C1.out.row
        rw [hm] at nv
        have NV := Mm.hid nv
        clear hrow hm hmx nv
        go_wp2_with (first | (at_lookup; go_must (refine wp_look_ok (κ := κs) rfl _ _ 68 rfl 62 law9 Try.underlying68 (zero62 _) C.out.map rfl _ rfl y KY.out (.agg #[]) SM.out.2 false SM.out.1 ?_)) | (at_mapUpdate; go_must (refine wp_put (κ := κs) rfl _ _ _ 68 rfl 62 law9 κs_inj κs_lit Try.underlying68 CM.out MX.out rfl _ (.agg #[]) rfl rfl y KY.out ?_; intro wa m1 g1; have M1 := Mm.hid m1; have G1 := Mm.hid g1; have LA := Mm.hid ((Fr.grown g1).blk LST.out (fun e => C1.out.map.ne_blk LST.out (by injection e))); have e1 : wa.cell? ⟨bl, 0, none⟩ = some (.slice A1 m c1) := LA.out.cell 0; have RA := Mm.hid ((Fr.grown g1).own HR.out (fun b hb e => NV.out (hb.trans e.symm))); have SA : Hid (base ≤ wa.heap.size) := Nat.le_trans hszr.out g1.size; clear m1 g1)) | (at_builtin; go_must (refine wp_ape1 base rfl (.tmp 25) (.tmp 27) 33 9 (.string ByteArray.empty) 1 16 #[.string y] rfl Try.underlying33 info9 rfl (by decide) (by decide) (.slice A1 m c1) m _ rfl rfl rfl (by intro u hu; simp at hu; subst hu; rfl) RA.out (Below.refl _ _) SA.out hl16.out ?_; intro v1 wb k1 k2 k3 k4; have K1 := Mm.hid k1; have K3 := Mm.hid k3; have K4 := Mm.hid (k4_of k4); have LB := Mm.hid ((Fr.grown k3).blk LA.out (fun e => own_ne RA.out LA.out (by decide) e)); have e2 : wb.cell? ⟨bl, 0, none⟩ = some (.slice A1 m c1) := LB.out.cell 0; have e3 : wb.frozen? ⟨bl, 0, none⟩ = false := LB.out.free 0; clear k1 k2 k3 k4; obtain ⟨A2, c2, hv2, hc2, _, _⟩ := own_slice K1.out; subst hv2)))
        all_goals (
          have FN : Hid (PutR base bs bl mb v l w (puts l (ys.take (k + 1))) (wb.setCell ⟨bl, 0, none⟩ (.slice A2 (m + 1) c2))) := by
            show PutR _ _ _ _ _ _ _ _ _
            rw [PT.out, PE.out]
            have hcc := C1.out
            rw [HM.out] at hcc
            obtain ⟨g1, g2, g3⟩ := hcc.grow (by rw [HM.out]; exact M1.out) G1.out (by rw [HM.out]; exact K1.out) K3.out K4.out
            have FW := F.out.trans (Fr.alloc (fun _ => False) wr (.cells #[] 62)) fun _ _ h => h.elim
            have hO := O.out
            rw [HM.out] at hO
            refine ⟨_, g1, fun j hj => ?_, FW.trans g2 fun j hj hc => clc_sub hO j hj hc⟩
            rcases g3 j hj with e | e
            · exact hO j e
            · exact .inr (Nat.le_trans FW.size e)
          clear e1 e2 e3 d0 d1 f1
          go_wp2
          go_roundw
          case rel => exact ⟨k + 1, by omega, by go_num, FN.out⟩
          case measure => simp [intOf] <;> omega)
    · obtain ⟨v', c', o', f'⟩ := HK.out.out
      have FIN : Hid (PutE base bs bl mb v (puts l ys) w (.returned (.tuple #[])) wr) := by
        have e : ys.take k = ys := List.take_of_length_le (by rw [LN.out]; omega)
        rw [e] at c'
        exact ⟨rfl, v', c', o', f'⟩
      clear c' o' f' HK
      go_wp2
      go_end0
      exact FIN.out
end Go.Proofs.Ythjldlgmfplngaa

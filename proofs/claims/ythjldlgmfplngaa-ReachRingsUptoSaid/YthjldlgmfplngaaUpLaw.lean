/- The walk of ReachUp. -/
import Derived.Test.YthjldlgmfplngaaOpen
namespace Go.Proofs.Ythjldlgmfplngaa
open Go.RowKit Go.Mm Go.Maps Go.Reach Go.WideMaps
theorem own_sets {w : World} {base e n c k sz : Nat} {xs : List Value} (h : w.ownsRow base e sz (.slice (some ⟨n, 0, none⟩) c k) c xs) (j : Nat) (u : Value) : (w.setCell ⟨n, j, none⟩ u).ownsRow base e sz (.slice (some ⟨n, 0, none⟩) c k) c (xs.set j u) := by
  rcases h.2 with ⟨h0, _⟩ | ⟨g, cap, cur, hv, hb, hg, hnc, hcm, hcs, ht⟩
  · cases h0
  · injection hv with h1 h2 h3
    injection h1 with h1
    injection h1 with h1
    subst h1
    subst h3
    refine ⟨by rw [List.length_set]; exact h.1, .inr ⟨n, k, cur.setIfInBounds j u, rfl, hb, ?_, hnc, hcm, by simpa using hcs, ?_⟩⟩
    · have := (show Blk w n e cur from hg).set j u
      exact this
    · rw [← ht, Array.toList_setIfInBounds, List.take_set]
theorem set_pr (q : Pr) : ∀ (L : List Pr) (k : Nat), ((L.flatMap fPr).set (k * 2) (.string q.a)).set (k * 2 + 1) (.string q.b) = (L.set k q).flatMap fPr
  | [], k => by simp
  | p :: L, 0 => rfl
  | p :: L, k + 1 => by
    rw [List.set_cons_succ, List.flatMap_cons, List.flatMap_cons, ← set_pr q L k, show (k + 1) * 2 = k * 2 + 1 + 1 from by omega]
    rfl
theorem over_set {T M : List Pr} {k : Nat} {q : Pr} (hq : T[k]? = some q) (hk : k < M.length) : (T.take k ++ M.drop k).set k q = T.take (k + 1) ++ M.drop (k + 1) := by
  have h1 := (List.getElem?_eq_some_iff.1 hq).1
  have hl : (T.take k).length = k := by rw [List.length_take]; omega
  rw [take_snoc' hq, List.drop_eq_getElem_cons hk, List.set_append_right k q (Nat.le_of_eq hl), hl, Nat.sub_self, List.set_cons_zero, List.append_assoc]
  rfl
/-- the pairs, so many of them written over -/
def overL (ps : List Pr) (k : Nat) : List Pr := (turned ps).take k ++ (marked ps).drop k
structure OverR (base g n c : Nat) (ps : List Pr) (w0 : World) (k : Nat) (w : World) : Prop where
  row : w.ownsRow base 37 2 (.slice (some ⟨g, 0, none⟩) (n + 24) c) (n + 24) ((overL ps k).flatMap fPr)
  fr : Fr (· = g) w0 w
theorem OverR.step {base g n c k : Nat} {ps : List Pr} {w0 w : World} {q : Pr} (h : OverR base g n c ps w0 k w) (hq : (turned ps)[k]? = some q) : OverR base g n c ps w0 (k + 1) ((w.setCell ⟨g, k * 2, none⟩ (.string q.a)).setCell ⟨g, k * 2 + 1, none⟩ (.string q.b)) := by
  have hk : k < (marked ps).length := by
    have := (List.getElem?_eq_some_iff.1 hq).1
    rw [turned_len] at this
    rw [marked_len]; omega
  refine ⟨?_, (h.fr.trans (Fr.setCell _ _ _) fun _ _ e => e).trans (Fr.setCell _ _ _) fun _ _ e => e⟩
  have r := own_sets (own_sets h.row (k * 2) (.string q.a)) (k * 2 + 1) (.string q.b)
  rw [set_pr] at r
  unfold overL at r ⊢
  rwa [over_set hq hk] at r
theorem mine_rd {base g n c : Nat} {ps : List Pr} {w : World} (ho : w.ownsRow base 37 2 (.slice (some ⟨g, 0, none⟩) (n + 24) c) (n + 24) ((marked ps).flatMap fPr)) (hl : ps.length = n) : Rd w (some ⟨g, 0, none⟩) n 2 (ps.flatMap fPr) := by
  refine ⟨by rw [length_flatMap fPr_len, hl], fun hn => ?_⟩
  obtain ⟨ad, h1, h2, h3⟩ := (Rd.of_own ho).2 (by omega)
  refine ⟨ad, h1, h2, fun j u hu => h3 j u ?_⟩
  unfold marked
  rw [List.flatMap_append, List.getElem?_append_left (List.getElem?_eq_some_iff.1 hu).1, hu]
set_option maxRecDepth 100000 in
set_option maxHeartbeats 4000000 in
theorem law_up (A : Option Addr) (N c : Nat) (ps : List Pr) (x o : ByteArray) (w : World) (h : Sl w 2 32 fPr gPr A N c ps) (hx : x.size ≤ 140737488351232) (ho : o.size ≤ 140737488351232) :
    Calls Try.prog 5 #[.slice A N c, .string x, .string o] w fun e w' => e = .returned (.bool true) ∧ Below w.heap.size w w' := by
  have R := Mm.hid h.rd
  have HN := Mm.hid h.len
  have hcap : N ≤ c := h.cap
  have hroom : N * 32 ≤ 140737488351232 := h.room
  have HR := Mm.hid hroom
  have HL : Hid (N * 32 + 16 ≤ 140737488355328) := by show _ ≤ _; omega
  have hN9 : N ≤ 4398046511104 := by omega
  have HS := Mm.hid (gPr_szs h.good)
  have HX : Hid (x.size ≤ maxLen) := by show _ ≤ _; unfold maxLen; omega
  have HO : Hid (o.size ≤ maxLen) := by show _ ≤ _; unfold maxLen; omega
  have UX := Mm.hid (upL_len ps x)
  have UO := Mm.hid (upL_len ps o)
  clear h hroom hx ho
  go_enter Try.func5, Try.ntmps5
  go_wp2_with fail
  refine (rup_row ps x _ _ _ _ R.out HN.out HL.out).mono ?_
  rintro e w1 ⟨Aa, ma, ca, rfl, hma, OA⟩
  go_wp2_with fail
  refine (rup_row ps o _ _ _ _ (R.out.below OA.out.2.2) HN.out HL.out).mono ?_
  rintro e w2 ⟨Ab, mb, cb, rfl, hmb, OB⟩
  have B2 := Mm.hid (OA.out.2.2.trans (OB.out.2.2.mono OA.out.2.2.size))
  go_wp2_with fail
  refine (turned_any _ _ _ ps _ (R.out.below B2.out) HN.out HR.out).mono ?_
  rintro e w3 ⟨vt, rfl, PT⟩
  obtain ⟨At, ct, hvt, hct, _, hRT⟩ := own_slice PT.out.row
  subst hvt
  have RT := Mm.hid hRT
  clear hRT
  go_wp2_with fail
  have hpl : ps.length = N := HN.out
  refine (rup_row (turned ps) x _ _ _ _ RT.out (turned_len ps) (by rw [hpl]; exact HL.out)).mono ?_
  rintro e w4 ⟨Ac, mc, cc, rfl, hmc, OC⟩
  have B4 := Mm.hid (B2.out.trans ((PT.out.fr.trans (OC.out.2.2.mono PT.out.fr.size)).mono B2.out.size))
  go_wp2_with fail
  refine (twin_any _ _ _ ps _ (R.out.below B4.out) HN.out HR.out).mono ?_
  rintro e w5 ⟨g, cm, rfl, hcm, hcm9, PM⟩
  have WX : Hid (Want w5.heap.size w5 (.slice Aa ma ca) (strs (upL ps x))) := Mm.hid (((Want.of_own OA.out.2.1 (by rw [strs_len]; exact OA.out.1) (Nat.le_refl _)).below (OB.out.2.2.trans ((PT.out.fr.trans (OC.out.2.2.mono PT.out.fr.size)).mono OB.out.2.2.size))).more (OB.out.2.2.trans ((PT.out.fr.trans (OC.out.2.2.mono PT.out.fr.size)).mono OB.out.2.2.size)).size |>.below (PM.out.1.fr) |>.more PM.out.1.fr.size)
  have WO : Hid (Want w5.heap.size w5 (.slice Ab mb cb) (strs (upL ps o))) := Mm.hid (((Want.of_own OB.out.2.1 (by rw [strs_len]; exact OB.out.1) (Nat.le_refl _)).below (PT.out.fr.trans (OC.out.2.2.mono PT.out.fr.size))).more (PT.out.fr.trans (OC.out.2.2.mono PT.out.fr.size)).size |>.below (PM.out.1.fr) |>.more PM.out.1.fr.size)
  have WC : Hid (Want w4.heap.size w5 (.slice Ac mc cc) (strs (upL (turned ps) x))) := Mm.hid ((Want.of_own OC.out.2.1 (by rw [strs_len]; exact OC.out.1) (Nat.le_refl _)).below (PM.out.1.fr))
  have RM := Mm.hid (mine_rd PM.out.1.row HN.out)
  have F0 := Mm.hid (Fam.nil w5.heap.size 9 w5 (Nat.le_refl _))
  have T0 := Mm.hid (Below.refl w5.heap.size w5)
  go_wp2_with fail
  refine (up_row ps x _ _ _ _ (RM.out.below T0.out) HN.out HS.out HX.out HL.out).mono ?_
  rintro e w6 ⟨A1, m1, c1, rfl, h1, O⟩
  have F1 := Mm.hid (F0.out.snoc O.out.2.2 (by rw [strs_len, O.out.1]; exact O.out.2.1))
  have T1 := Mm.hid (T0.out.trans (O.out.2.2.mono T0.out.size))
  clear O F0 T0
  go_wp2_with fail
  refine (up_row ps x _ _ _ _ (RM.out.below T1.out) HN.out HS.out HX.out HL.out).mono ?_
  rintro e w7 ⟨A2, m2, c2, rfl, h2, O⟩
  have F2 := Mm.hid (F1.out.snoc O.out.2.2 (by rw [strs_len, O.out.1]; exact O.out.2.1))
  have T2 := Mm.hid (T1.out.trans (O.out.2.2.mono T1.out.size))
  clear O F1 T1
  go_wp2_with fail
  refine (up_row ps o _ _ _ _ (RM.out.below T2.out) HN.out HS.out HO.out HL.out).mono ?_
  rintro e w8 ⟨A3, m3, c3, rfl, h3, O⟩
  have F3 := Mm.hid (F2.out.snoc O.out.2.2 (by rw [strs_len, O.out.1]; exact O.out.2.1))
  have T3 := Mm.hid (T2.out.trans (O.out.2.2.mono T2.out.size))
  clear O F2 T2
  go_wp2_with fail
  refine (up_row ps o _ _ _ _ (RM.out.below T3.out) HN.out HS.out HO.out HL.out).mono ?_
  rintro e w9 ⟨A4, m4, c4, rfl, h4, O⟩
  have F4 := Mm.hid (F3.out.snoc O.out.2.2 (by rw [strs_len, O.out.1]; exact O.out.2.1))
  have T4 := Mm.hid (T3.out.trans (O.out.2.2.mono T3.out.size))
  clear O F3 T3
  go_wp2_with fail
  refine (up_row ps x _ _ _ _ (RM.out.below T4.out) HN.out HS.out HX.out HL.out).mono ?_
  rintro e w10 ⟨A5, m5, c5, rfl, h5, O⟩
  have F5 := Mm.hid (F4.out.snoc O.out.2.2 (by rw [strs_len, O.out.1]; exact O.out.2.1))
  have T5 := Mm.hid (T4.out.trans (O.out.2.2.mono T4.out.size))
  clear O F4 T4
  go_wp2_with fail
  refine (up_row ps x _ _ _ _ (RM.out.below T5.out) HN.out HS.out HX.out HL.out).mono ?_
  rintro e w11 ⟨A6, m6, c6, rfl, h6, O⟩
  have F6 := Mm.hid (F5.out.snoc O.out.2.2 (by rw [strs_len, O.out.1]; exact O.out.2.1))
  have T6 := Mm.hid (T5.out.trans (O.out.2.2.mono T5.out.size))
  clear O F5 T5
  have FF : Hid (Fam w5.heap.size 9 w11 [.slice A1 m1 c1, .slice A2 m2 c2, .slice A3 m3 c3, .slice A4 m4 c4, .slice A5 m5 c5, .slice A6 m6 c6] ([upL ps x, upL ps x, upL ps o, upL ps o, upL ps x, upL ps x].map strs)) := F6.out
  clear F6
  have hsz : w5.heap.size ≤ w11.heap.size := T6.out.size
  have G7 := Mm.hid ((Below.refl w11.heap.size w11).alloc (Nat.le_refl _) (.cells #[Value.slice A1 m1 c1, Value.slice A2 m2 c2, Value.slice A3 m3 c3, Value.slice A4 m4 c4, Value.slice A5 m5 c5, Value.slice A6 m6 c6] 33))
  have G8 := Mm.hid (G7.out.alloc (by simp) (.cells #[Value.slice Aa ma ca, Value.slice Aa ma ca, Value.slice Ab mb cb, Value.slice Ab mb cb, Value.slice Aa ma ca, Value.slice Aa ma ca] 33))
  have F8 := Mm.hid (FF.out.below G8.out)
  have WX8 := Mm.hid ((WX.out.below T6.out).below G8.out)
  have WO8 := Mm.hid ((WO.out.below T6.out).below G8.out)
  have R1 := Mm.hid ((Rd.lit w11 #[Value.slice A1 m1 c1, Value.slice A2 m2 c2, Value.slice A3 m3 c3, Value.slice A4 m4 c4, Value.slice A5 m5 c5, Value.slice A6 m6 c6] 33 6 rfl).alloc (.cells #[Value.slice Aa ma ca, Value.slice Aa ma ca, Value.slice Ab mb cb, Value.slice Ab mb cb, Value.slice Aa ma ca, Value.slice Aa ma ca] 33))
  have hs1 : (w11.alloc (.cells #[Value.slice A1 m1 c1, Value.slice A2 m2 c2, Value.slice A3 m3 c3, Value.slice A4 m4 c4, Value.slice A5 m5 c5, Value.slice A6 m6 c6] 33)).heap.size = w11.heap.size + 1 := by simp
  have R2 : Hid (Rd ((w11.alloc (.cells #[Value.slice A1 m1 c1, Value.slice A2 m2 c2, Value.slice A3 m3 c3, Value.slice A4 m4 c4, Value.slice A5 m5 c5, Value.slice A6 m6 c6] 33)).alloc (.cells #[Value.slice Aa ma ca, Value.slice Aa ma ca, Value.slice Ab mb cb, Value.slice Ab mb cb, Value.slice Aa ma ca, Value.slice Aa ma ca] 33)) (some ⟨w11.heap.size + 1, 0, none⟩) 6 1 [Value.slice Aa ma ca, Value.slice Aa ma ca, Value.slice Ab mb cb, Value.slice Ab mb cb, Value.slice Aa ma ca, Value.slice Aa ma ca]) := by
    have h := Rd.lit (w11.alloc (.cells #[Value.slice A1 m1 c1, Value.slice A2 m2 c2, Value.slice A3 m3 c3, Value.slice A4 m4 c4, Value.slice A5 m5 c5, Value.slice A6 m6 c6] 33)) #[Value.slice Aa ma ca, Value.slice Aa ma ca, Value.slice Ab mb cb, Value.slice Ab mb cb, Value.slice Aa ma ca, Value.slice Aa ma ca] 33 6 rfl
    rw [hs1] at h
    exact h
  have K1 := Mm.hid ((Blk.new w11 #[Value.slice A1 m1 c1, Value.slice A2 m2 c2, Value.slice A3 m3 c3, Value.slice A4 m4 c4, Value.slice A5 m5 c5, Value.slice A6 m6 c6] 33).keep (Below.heap_alloc _ (.cells #[Value.slice Aa ma ca, Value.slice Aa ma ca, Value.slice Ab mb cb, Value.slice Ab mb cb, Value.slice Aa ma ca, Value.slice Aa ma ca] 33) w11.heap.size (by simp)))
  have K2 : Hid (Blk ((w11.alloc (.cells #[Value.slice A1 m1 c1, Value.slice A2 m2 c2, Value.slice A3 m3 c3, Value.slice A4 m4 c4, Value.slice A5 m5 c5, Value.slice A6 m6 c6] 33)).alloc (.cells #[Value.slice Aa ma ca, Value.slice Aa ma ca, Value.slice Ab mb cb, Value.slice Ab mb cb, Value.slice Aa ma ca, Value.slice Aa ma ca] 33)) (w11.heap.size + 1) 33 #[Value.slice Aa ma ca, Value.slice Aa ma ca, Value.slice Ab mb cb, Value.slice Ab mb cb, Value.slice Aa ma ca, Value.slice Aa ma ca]) := by
    have h := Blk.new (w11.alloc (.cells #[Value.slice A1 m1 c1, Value.slice A2 m2 c2, Value.slice A3 m3 c3, Value.slice A4 m4 c4, Value.slice A5 m5 c5, Value.slice A6 m6 c6] 33)) #[Value.slice Aa ma ca, Value.slice Aa ma ca, Value.slice Ab mb cb, Value.slice Ab mb cb, Value.slice Aa ma ca, Value.slice Aa ma ca] 33
    rw [hs1] at h
    exact h
  clear hs1
  have AP := Mm.hid (ApIn.of (m := 6) (wv := [.slice Aa ma ca, .slice Aa ma ca, .slice Ab mb cb, .slice Ab mb cb, .slice Aa ma ca, .slice Aa ma ca]) F8.out rfl rfl R1.out R2.out (fun ad h => by cases h; exact ⟨33, _, by decide, K1.out⟩) (fun ad h => by cases h; exact ⟨33, _, by decide, K2.out⟩) (fun i v xs hv hx => by
    rcases i with _ | _ | _ | _ | _ | _ | i <;> simp at hv hx <;> subst hv hx
    · exact WX8.out.out
    · exact WX8.out.out
    · exact WO8.out.out
    · exact WO8.out.out
    · exact WX8.out.out
    · exact WX8.out.out
    ))
  have lens : ∀ zs ∈ [upL ps x, upL ps x, upL ps o, upL ps o, upL ps x, upL ps x], zs.length ≤ 8796093022195 := by
    intro zs hz
    have h1 := UX.out
    have h2 := UO.out
    simp only [List.mem_cons, List.not_mem_nil, or_false] at hz
    rcases hz with rfl | rfl | rfl | rfl | rfl | rfl <;> omega
  have LE := Mm.hid lens
  clear lens FF K1 K2 R1 R2
  go_wp2_with fail
  refine (apart_true w5.heap.size 6 _ _ 6 6 _ _ _ _ AP.out (by omega) LE.out (by simp; omega) (Nat.le_refl _) (Nat.le_refl _)).mono ?_
  rintro e w12 ⟨rfl, hf⟩
  have T8 := Mm.hid (T6.out.trans (G8.out.mono hsz))
  have B12 := Mm.hid (T8.out.trans (hf.below (B := w5.heap.size) (fun g ⟨u, hu, hg⟩ => (F8.out.blk u hu g hg).1) T8.out.size))
  have WX12 := Mm.hid (WX8.out.fr hf (fun g hg ⟨u, hu, hg'⟩ => by have := (F8.out.blk u hu g hg').1; omega))
  have M12 := Mm.hid ((Fr.of_below B12.out).own PM.out.1.row fun _ _ h => h)
  have R12 := Mm.hid ((R.out.below B4.out).below PM.out.1.fr |>.below B12.out)
  clear hf AP LE F8 G8 G7 WX8 WO8 T8 T6
  go_wp2_with fail
  refine (kept_any w4.heap.size g cm A N c ps _ ⟨M12.out, R12.out, HN.out⟩ hN9 hcm hcm9 hcap).mono ?_
  rintro e w13 ⟨rfl, d, hw⟩
  have f13 : Fr (fun _ => False) w12 w13 := by rw [hw]; exact Fr.drewN (fun _ => False) _ _
  have B13 := Mm.hid (B12.out.trans (f13.below (B := w5.heap.size) (fun _ h => h.elim) B12.out.size))
  have WX13 := Mm.hid (WX12.out.fr f13 fun _ _ h => h)
  have M13 := Mm.hid (f13.own M12.out fun _ _ h => h)
  clear hw f13 B12 WX12 M12 R12
  go_wp2_with fail
  refine (up_row ps x _ _ _ _ (mine_rd M13.out HN.out) HN.out HS.out HX.out HL.out).mono ?_
  rintro e w14 ⟨A7, m7, c7, rfl, h7, O⟩
  have hm7 : m7 = ma := by rw [← OA.out.1, ← O.out.1]
  subst hm7
  have B14 := Mm.hid (B13.out.trans (O.out.2.2.mono B13.out.size))
  have R14 : Hid (Rd w14 A7 m7 1 (strs (upL ps x))) := Rd.of_own O.out.2.1
  have M14 := Mm.hid ((Fr.of_below O.out.2.2).own M13.out fun _ _ h => h)
  have Q14 : Hid (Rd w14 Aa m7 1 (strs (upL ps x))) := by
    obtain ⟨A, c, e1, _, e2, _⟩ := (WX13.out.below O.out.2.2).out
    rw [strs_len, OA.out.1] at e1 e2
    injection e1 with e1 _ _
    subst e1
    exact e2
  have hm9 : m7 ≤ 4611686018427387904 := by
    have := UX.out
    rw [OA.out.1, HN.out] at this
    omega
  clear O
  go_wp2_with fail
  refine (same_true _ _ _ _ _ _ _ _ R14.out Q14.out h7 hma hm9).mono ?_
  rintro e w15 ⟨rfl, d, hw⟩
  have f15 : Fr (fun _ => False) w14 w15 := by rw [hw]; exact Fr.drewN (fun _ => False) _ _
  have B15 := Mm.hid (B14.out.trans (f15.below (B := w5.heap.size) (fun _ h => h.elim) B14.out.size))
  have M15 := Mm.hid (f15.own M14.out fun _ _ h => h)
  clear hw f15 B13 WX13 M13 B14 M14 R14 Q14
  go_wp2_with fail
  refine (turned_any _ _ _ ps _ (((R.out.below B4.out).below PM.out.1.fr).below B15.out) HN.out HR.out).mono ?_
  rintro e w16 ⟨vt, rfl, PT2⟩
  obtain ⟨At2, ct2, hvt, hct2, hAt, hRT⟩ := own_slice PT2.out.row
  subst hvt
  have RT2 := Mm.hid hRT
  have M16 := Mm.hid ((Fr.of_below PT2.out.fr).own M15.out fun _ _ h => h)
  clear hRT
  have hgl : g < w15.heap.size := (own_lt M15.out rfl).2
  have HAt : Hid (∀ ad, At2 = some ad → ¬ ad.block = g) := Mm.hid fun ad ha e => by
    have := (own_lt PT2.out.row (hAt ad ha)).1
    omega
  clear hAt
  have HPL := Mm.hid hpl
  have ST : Hid (OverR w4.heap.size g N cm ps w16 0 w16) := ⟨M16.out, Fr.refl _ _⟩
  clear M16 M15
  go_wp2_with fail
  go_loopw [14] (fun i wr => ∃ k : Nat, k ≤ N ∧ i = .int .i64 (k : Nat) ∧ Hid (OverR w4.heap.size g N cm ps w16 k wr)) (fun i _ => N - (intOf i).toNat)
  case atStart => exact ⟨0, Nat.zero_le _, rfl, ST.out⟩
  case round =>
    obtain ⟨k, hk, rfl, HK⟩ := hrel
    clear ST
    by_cases hlt : k < N
    · obtain ⟨q, hq⟩ : ∃ q, (turned ps)[k]? = some q := ⟨_, List.getElem?_eq_getElem (by rw [turned_len, HN.out]; exact hlt)⟩
      have NX := Mm.hid (HK.out.step hq)
      obtain ⟨ad, rfl, _, f0, f1⟩ := rd_pr (HK.out.fr.rd RT2.out HAt.out) (turned_len ps) hq
      obtain ⟨g', cap', hv, _, _, _, hcell, hfree⟩ := own_blk HK.out.row (by omega)
      injection hv with e1 _ _
      injection e1 with e1
      injection e1 with e1
      subst e1
      obtain ⟨u0, hu0⟩ : ∃ u, ((overL ps k).flatMap fPr)[k * 2]? = some u := ⟨_, List.getElem?_eq_getElem (by rw [HK.out.row.1]; omega)⟩
      obtain ⟨u1, hu1⟩ : ∃ u, ((overL ps k).flatMap fPr)[k * 2 + 1]? = some u := ⟨_, List.getElem?_eq_getElem (by rw [HK.out.row.1]; omega)⟩
      have f2 := hcell _ _ hu0
      have f3 := hcell _ _ hu1
      have f4 := hfree (k * 2)
      have f5 := hfree (k * 2 + 1)
      have hkp : k < ps.length := by rw [HN.out]; exact hlt
      clear hcell hfree hu0 hu1 hq
      go_wp2_with fail
      go_roundw
      case rel => exact ⟨k + 1, by omega, by go_num, NX.out⟩
      case measure => simp [intOf] <;> omega
    · have hkN : k = N := by omega
      subst hkN
      have hov : overL ps k = marked (turned ps) := by
        unfold overL marked
        rw [List.take_of_length_le (by rw [turned_len, HN.out]; exact Nat.le_refl _), List.drop_left' HN.out]
      have M17 := Mm.hid HK.out.row
      rw [hov] at M17
      have HGE := Mm.hid PM.out.2
      have F17 : Hid (Fr (fun j => j = g) w5 wr) := ((Fr.of_below B15.out).mono fun _ h => h.elim).trans (((Fr.of_below PT2.out.fr).mono (T := fun j => j = g) fun _ h => h.elim).trans HK.out.fr fun _ _ e => e) fun _ _ e => e
      clear hov
      go_wp2_with fail
      refine (up_row (turned ps) x _ _ _ _ (mine_rd M17.out ((turned_len ps).trans HN.out)) ((turned_len ps).trans HN.out) (turned_sz HS.out) HX.out HL.out).mono ?_
      rintro e w18 ⟨A8, m8, c8, rfl, h8, O⟩
      have hm8 : m8 = mc := by rw [← OC.out.1, ← O.out.1]
      subst hm8
      have R18 : Hid (Rd w18 A8 m8 1 (strs (upL (turned ps) x))) := Rd.of_own O.out.2.1
      have Q18 : Hid (Rd w18 Ac m8 1 (strs (upL (turned ps) x))) := by
        obtain ⟨A, c, e1, _, e2, _⟩ := ((WC.out.fr F17.out fun j hj e => by have := HGE.out; omega).below O.out.2.2).out
        rw [strs_len, OC.out.1] at e1 e2
        injection e1 with e1 _ _
        subst e1
        exact e2
      have hm9' : m8 ≤ 4611686018427387904 := by
        have := upL_len (turned ps) x
        rw [OC.out.1, turned_len, HN.out] at this
        omega
      have FB : Hid (Below w.heap.size w w18) := by
        have h5 := B4.out.trans (PM.out.1.fr.mono B4.out.size)
        have h6 := F17.out.below (B := w.heap.size) (fun j e => by have := HGE.out; have := B4.out.size; omega) h5.size
        have h7 := h5.trans h6
        exact h7.trans (O.out.2.2.mono h7.size)
      clear O
      go_wp2_with fail
      refine (same_true _ _ _ _ _ _ _ _ R18.out Q18.out h8 hmc hm9').mono ?_
      rintro e w19 ⟨rfl, d, hw⟩
      have f19 : Fr (fun _ => False) w18 w19 := by rw [hw]; exact Fr.drewN (fun _ => False) _ _
      have FE := Mm.hid (FB.out.trans (f19.below (B := w.heap.size) (fun _ h => h.elim) FB.out.size))
      clear hw f19 FB
      go_wp2_with fail
      go_ret
      exact ⟨rfl, FE.out⟩
end Go.Proofs.Ythjldlgmfplngaa

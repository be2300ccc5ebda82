/- The walk of ReachThrough. -/
import Derived.Test.YthjldlgmfplngaaLeastLaw
namespace Go.Proofs.Ythjldlgmfplngaa
open Go.RowKit Go.Mm Go.Maps Go.Reach Go.WideMaps
theorem pathL_dep (ps : List Pr) (x t : ByteArray) : (pathL ps x t).length = dep (line ps) x (all ps x).length t := rfl
theorem pathL_iff {ps : List Pr} {x t : ByteArray} : 0 < (pathL ps x t).length ↔ t ∈ upL ps x := by
  rw [pathL_dep]
  exact dep_iff (upL_hk ps x)
theorem pathL_through {ps : List Pr} {a b d : ByteArray} (h1 : 0 < (pathL ps a b).length) (h2 : 0 < (pathL ps b d).length) :
    0 < (pathL ps a d).length ∧ (pathL ps a d).length + 1 ≤ (pathL ps a b).length + (pathL ps b d).length ∧ d ∈ upL ps a := by
  have hb := pathL_iff.1 h1
  obtain ⟨i, hi⟩ := List.getElem?_of_mem (pathL_iff.1 h2)
  obtain ⟨h3, h4⟩ := dep_through (upL_hk ps a) (upL_hk ps b) hb i d hi
  exact ⟨pathL_iff.2 h3, h4, h3⟩
theorem row_rd {w : World} {base : Nat} {A : Option Addr} {m c : Nat} {l : List ByteArray} (h : w.ownsRow base 9 1 (.slice A m c) m (strs l)) : Rd w A m 1 (strs l) := by
  obtain ⟨A', c', hv, _, _, hR⟩ := own_slice h
  injection hv with e1 e2 e3
  subst e1
  exact hR
set_option maxRecDepth 100000 in
set_option maxHeartbeats 4000000 in
theorem law_through (A : Option Addr) (N c : Nat) (ps : List Pr) (xa xb xd : ByteArray) (w : World) (h : Sl w 2 32 fPr gPr A N c ps) (ha : xa.size ≤ 140737488351232) (hb : xb.size ≤ 140737488351232) (hd : xd.size ≤ 140737488351232) :
    Calls Try.prog 10 #[.slice A N c, .string xa, .string xb, .string xd] w fun e w' => e = .returned (.bool true) ∧ Below w.heap.size w w' := by
  have R := Mm.hid h.rd
  have HN := Mm.hid h.len
  have hcap : N ≤ c := h.cap
  have hroom : N * 32 ≤ 140737488351232 := h.room
  have HR := Mm.hid hroom
  have HL : Hid (N * 32 + 16 ≤ 140737488355328) := by show _ ≤ _; omega
  have hN9 : N ≤ 4398046511104 := by omega
  have HS := Mm.hid (gPr_szs h.good)
  have HA : Hid (xa.size ≤ maxLen) := by show _ ≤ _; unfold maxLen; omega
  have HB : Hid (xb.size ≤ maxLen) := by show _ ≤ _; unfold maxLen; omega
  have HD : Hid (xd.size ≤ maxLen) := by show _ ≤ _; unfold maxLen; omega
  have U1 := Mm.hid (pathL_len ps xa xb)
  have U2 := Mm.hid (pathL_len ps xb xd)
  have U3 := Mm.hid (pathL_len ps xa xd)
  have U4 := Mm.hid (upL_len ps xa)
  clear h hroom ha hb hd
  go_enter Try.func10, Try.ntmps10
  go_wp2_with fail
  refine (alive_any _).mono ?_
  rintro e w1 ⟨rfl, F1⟩
  go_wp2_with fail
  refine (twin_any _ _ _ ps _ (F1.out.rd R.out fun _ _ h => h) HN.out HR.out).mono ?_
  rintro e w2 ⟨g1, k1, rfl, hk1, hl1, PM⟩
  have F2 := Mm.hid (F1.out.trans (Fr.of_below PM.out.1.fr) fun _ _ h => h)
  go_wp2_with fail
  refine (path_row ps xa xb _ _ _ _ (mine_rd PM.out.1.row HN.out) HN.out HS.out HA.out HB.out HL.out).mono ?_
  rintro e w3 ⟨A1, m1, c1, rfl, hm1, O1⟩
  have F3 := Mm.hid (F2.out.trans (Fr.of_below O1.out.2.2) fun _ _ h => h)
  have E1 := Mm.hid O1.out.1
  clear F1 F2 PM O1
  go_wp2_with fail
  refine (twin_any _ _ _ ps _ (F3.out.rd R.out fun _ _ h => h) HN.out HR.out).mono ?_
  rintro e w4 ⟨g2, k2, rfl, hk2, hl2, PM⟩
  have F4 := Mm.hid (F3.out.trans (Fr.of_below PM.out.1.fr) fun _ _ h => h)
  go_wp2_with fail
  refine (path_row ps xb xd _ _ _ _ (mine_rd PM.out.1.row HN.out) HN.out HS.out HB.out HD.out HL.out).mono ?_
  rintro e w5 ⟨A2, m2, c2, rfl, hm2, O2⟩
  have F5 := Mm.hid (F4.out.trans (Fr.of_below O2.out.2.2) fun _ _ h => h)
  have E2 := Mm.hid O2.out.1
  clear F3 F4 PM O2
  go_wp2_with fail
  refine (twin_any _ _ _ ps _ (F5.out.rd R.out fun _ _ h => h) HN.out HR.out).mono ?_
  rintro e w6 ⟨g3, k3, rfl, hk3, hl3, PM⟩
  have F6 := Mm.hid (F5.out.trans (Fr.of_below PM.out.1.fr) fun _ _ h => h)
  go_wp2_with fail
  refine (path_row ps xa xd _ _ _ _ (mine_rd PM.out.1.row HN.out) HN.out HS.out HA.out HD.out HL.out).mono ?_
  rintro e w7 ⟨A3, m3, c3, rfl, hm3, O3⟩
  have F7 := Mm.hid (F6.out.trans (Fr.of_below O3.out.2.2) fun _ _ h => h)
  have E3 := Mm.hid O3.out.1
  clear F5 F6 PM O3
  have hpl : ps.length = N := HN.out
  have b1 : m1 ≤ N + 1 := by have h1 := U1.out; have h2 := E1.out; omega
  have b2 : m2 ≤ N + 1 := by have h1 := U2.out; have h2 := E2.out; omega
  have b3 : m3 ≤ N + 1 := by have h1 := U3.out; have h2 := E3.out; omega
  have Z7 := Mm.hid (F7.out.below (B := w.heap.size) (fun _ h => h.elim) (Nat.le_refl _))
  have HP := Mm.hid hpl
  clear hpl
  by_cases h1 : m1 = 0
  · subst h1
    go_wp2_with fail
    go_ret
    exact ⟨rfl, Z7.out⟩
  · by_cases h2 : m2 = 0
    · subst h2
      have z1 : ((m1 : Int) == 0) = false := beq_eq_false_iff_ne.2 (by omega)
      go_wp2_with fail
      go_ret
      exact ⟨rfl, Z7.out⟩
    · have z1 : ((m1 : Int) == 0) = false := beq_eq_false_iff_ne.2 (by omega)
      have z2 : ((m2 : Int) == 0) = false := beq_eq_false_iff_ne.2 (by omega)
      obtain ⟨t1, t2, t3⟩ := pathL_through (ps := ps) (a := xa) (b := xb) (d := xd) (by rw [E1.out]; omega) (by rw [E2.out]; omega)
      rw [E3.out] at t1 t2
      rw [E1.out, E2.out] at t2
      have T3 := Mm.hid t3
      have p3 : (0 : Int) < (m3 : Int) := by omega
      have y1 : IntKind.i64.wrap ((m1 : Int) + (m2 : Int)) = (m1 : Int) + (m2 : Int) := IntWalk.i64_in _ (by omega)
      have y2 : IntKind.i64.wrap ((m1 : Int) + (m2 : Int) - 1) = (m1 : Int) + (m2 : Int) - 1 := IntWalk.i64_in _ (by omega)
      have y3 : (m3 : Int) ≤ (m1 : Int) + (m2 : Int) - 1 := by omega
      clear t3
      go_wp2_with fail
      refine (twin_any _ _ _ ps _ (F7.out.rd R.out fun _ _ h => h) HN.out HR.out).mono ?_
      rintro e w8 ⟨g4, k4, rfl, hk4, hl4, PM⟩
      have F8 := Mm.hid (F7.out.trans (Fr.of_below PM.out.1.fr) fun _ _ h => h)
      go_wp2_with fail
      refine (up_row ps xa _ _ _ _ (mine_rd PM.out.1.row HN.out) HN.out HS.out HA.out HL.out).mono ?_
      rintro e w9 ⟨A4, m4, c4, rfl, hm4, O4⟩
      have F9 := Mm.hid (F8.out.trans (Fr.of_below O4.out.2.2) fun _ _ h => h)
      have LC : Hid (Calls Try.prog 36 #[.slice A4 m4 c4, .string xd] w9 fun e w' => e = .returned (.bool true) ∧ w' = w9) := by
        have h := hasl_any A4 m4 c4 (upL ps xa) xd w9 (row_rd O4.out.2.1) (by have h1 := U4.out; have h2 := O4.out.1; have h3 := HP.out; omega)
        rwa [isIn_true T3.out] at h
      have Z9 := Mm.hid (F9.out.below (B := w.heap.size) (fun _ h => h.elim) (Nat.le_refl _))
      go_wp2_with (go_at_call 36; refine LC.out.mono ?_; rintro e w' ⟨rfl, rfl⟩)
      go_ret
      exact ⟨rfl, Z9.out⟩
end Go.Proofs.Ythjldlgmfplngaa

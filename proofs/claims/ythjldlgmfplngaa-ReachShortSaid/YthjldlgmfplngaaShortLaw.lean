/- The walk of ReachShort. -/
import Derived.Test.YthjldlgmfplngaaThroughLaw
import Derived.Deep.RegionHeld3
namespace Go.Proofs.Ythjldlgmfplngaa
open Go.RowKit Go.Mm Go.Maps Go.Reach Go.WideMaps
theorem fz_alloc {w w1 : World} (h : Fr (fun _ => False) w w1) (o : Obj) : Fr (fun _ => False) w (w1.alloc o) := h.trans (Fr.alloc (fun _ => False) w1 o) fun _ _ h => h
theorem fz_drew {w w1 : World} (h : Fr (fun _ => False) w w1) : Fr (fun _ => False) w w1.drew := h.trans (Fr.drew (fun _ => False) w1) fun _ _ h => h
theorem fz_drewN {w w1 : World} (h : Fr (fun _ => False) w w1) (n : Nat) : Fr (fun _ => False) w (w1.drewN n) := h.trans (Fr.drewN (fun _ => False) w1 n) fun _ _ h => h
theorem pathL_self (ps : List Pr) (x : ByteArray) : (pathL ps x x).length = 1 := dep_first (upL_hk ps x)
theorem pathL_pair {ps : List Pr} {x : ByteArray} {p : Pr} (hp : p ∈ ps) (h : 0 < (pathL ps x p.a).length) :
    0 < (pathL ps x p.b).length ∧ (pathL ps x p.b).length ≤ (pathL ps x p.a).length + 1 := by
  obtain ⟨h1, h2⟩ := dep_edge (upL_hk ps x) (pathL_iff.1 h) (mem_line.2 ⟨p, hp, rfl, rfl⟩)
  exact ⟨pathL_iff.2 h1, h2⟩
theorem pathL_way {ps : List Pr} {x y : ByteArray} {i : Nat} (h : (upL ps x)[i]? = some y) :
    (pathL ps x y)[0]? = some x ∧ (pathL ps x y).getLast? = some y ∧ ∀ (p : Nat) (a b : ByteArray), (pathL ps x y)[p]? = some a → (pathL ps x y)[p + 1]? = some b → b ∈ line ps a :=
  way_is (upL_hk ps x) i y h
set_option maxRecDepth 100000 in
set_option maxHeartbeats 4000000 in
theorem law_short (A : Option Addr) (N c : Nat) (ps : List Pr) (x o : ByteArray) (w : World) (h : Sl w 2 32 fPr gPr A N c ps) (hx : x.size ≤ 140737488351232) (ho : o.size ≤ 140737488351232) :
    Calls Try.prog 9 #[.slice A N c, .string x, .string o] w fun e w' => e = .returned (.bool true) ∧ Below w.heap.size w w' := by
  have R := Mm.hid h.rd
  have HN := Mm.hid h.len
  have hcap : N ≤ c := h.cap
  have hroom : N * 32 ≤ 140737488351232 := h.room
  have HR := Mm.hid hroom
  have HL : Hid (N * 32 + 16 ≤ 140737488355328) := by show _ ≤ _; omega
  have hN9 : N ≤ 4398046511104 := by omega
  have HS := Mm.hid (gPr_szs h.good)
  have HX : Hid (x.size ≤ maxLen) := by show _ ≤ _; unfold maxLen; omega
  have HO : Hid (o.size ≤ maxLen) := by show _ ≤ _; unfold maxLen; omega
  have UL := Mm.hid (upL_len ps x)
  clear h hroom hx ho
  go_enter Try.func9, Try.ntmps9
  go_wp2_with fail
  refine (alive_any _).mono ?_
  rintro e w1 ⟨rfl, F1⟩
  go_wp2_with fail
  refine (twin_any _ _ _ ps _ (F1.out.rd R.out fun _ _ h => h) HN.out HR.out).mono ?_
  rintro e w2 ⟨g, cm, rfl, hcm, hcm9, PM⟩
  have F2 := Mm.hid (F1.out.trans (Fr.of_below PM.out.1.fr) fun _ _ h => h)
  go_wp2_with fail
  refine (up_row ps x _ _ _ _ (mine_rd PM.out.1.row HN.out) HN.out HS.out HX.out HL.out).mono ?_
  rintro e w3 ⟨AL, m, cL, rfl, hm, O⟩
  have F3 := Mm.hid (F2.out.trans (Fr.of_below O.out.2.2) fun _ _ h => h)
  have LL := Mm.hid O.out.1
  have L3 := Mm.hid (row_rd O.out.2.1)
  have hmN : m ≤ N + 1 := by
    have h1 := UL.out
    have h2 : ps.length = N := HN.out
    have h3 : (upL ps x).length = m := LL.out
    omega
  clear F1 F2 PM O
  have PL : ∀ t, (pathL ps x t).length ≤ N + 1 := fun t => by
    have h1 := pathL_len ps x t
    have h2 : ps.length = N := HN.out
    omega
  have HPL := Mm.hid PL
  clear PL
  go_upto_region 3 with (fail)
  go_cut [42] from 19 to 42 (fun bv wc => bv = .bool false ∧ Hid (Fr (fun _ => False) w3 wc))
  case first =>
    have UI := Mm.hid (hasl_any AL m cL (upL ps x) o w3 L3.out (by omega))
    have tail : ∀ (A2 : Option Addr) (m2 c2 : Nat) (w5 : World), Hid (Fr (fun _ => False) w3 w5) → m2 ≤ c2 → Hid ((pathL ps x o).length = m2) → True := fun _ _ _ _ _ _ _ => trivial
    clear tail
    by_cases hin : o ∈ upL ps x
    · rw [isIn_true hin] at UI
      have hpos := pathL_iff.2 hin
      have HP := Mm.hid hpos
      clear hin hpos
      go_wp2_with (go_at_call 36; refine UI.out.mono ?_; rintro e w' ⟨rfl, rfl⟩)
      refine (twin_any _ _ _ ps _ (F3.out.rd R.out fun _ _ h => h) HN.out HR.out).mono ?_
      rintro e w4 ⟨g4, k4, rfl, hk4, hl4, PM⟩
      have F4 := Mm.hid (Fr.of_below PM.out.1.fr)
      go_wp2_with fail
      refine (path_row ps x o _ _ _ _ (mine_rd PM.out.1.row HN.out) HN.out HS.out HX.out HO.out HL.out).mono ?_
      rintro e w5 ⟨A5, m5, c5, rfl, hm5, O⟩
      have F5 := Mm.hid (F4.out.trans (Fr.of_below O.out.2.2) fun _ _ h => h)
      have z5 : (0 : Int) < (m5 : Int) := by
        have h1 := HP.out
        have h2 := O.out.1
        omega
      clear F4 PM O
      go_wp2_with fail
      refine (twin_any _ _ _ ps _ ((F3.out.trans F5.out fun _ _ h => h).rd R.out fun _ _ h => h) HN.out HR.out).mono ?_
      rintro e w6 ⟨g6, k6, rfl, hk6, hl6, PM⟩
      have F6 := Mm.hid (F5.out.trans (Fr.of_below PM.out.1.fr) fun _ _ h => h)
      go_wp2_with fail
      refine (path_row ps x x _ _ _ _ (mine_rd PM.out.1.row HN.out) HN.out HS.out HX.out HX.out HL.out).mono ?_
      rintro e w7 ⟨A7, m7, c7, rfl, hm7, O⟩
      have F7 := Mm.hid (F6.out.trans (Fr.of_below O.out.2.2) fun _ _ h => h)
      obtain rfl : m7 = 1 := by rw [← O.out.1]; exact pathL_self ps x
      go_wp2_with fail
      go_meet
      exact ⟨rfl, F7⟩
    · rw [isIn_false hin] at UI
      have hpos : ¬ 0 < (pathL ps x o).length := fun h => hin (pathL_iff.1 h)
      have HP := Mm.hid hpos
      clear hin hpos
      go_wp2_with (go_at_call 36; refine UI.out.mono ?_; rintro e w' ⟨rfl, rfl⟩)
      refine (twin_any _ _ _ ps _ (F3.out.rd R.out fun _ _ h => h) HN.out HR.out).mono ?_
      rintro e w4 ⟨g4, k4, rfl, hk4, hl4, PM⟩
      have F4 := Mm.hid (Fr.of_below PM.out.1.fr)
      go_wp2_with fail
      refine (path_row ps x o _ _ _ _ (mine_rd PM.out.1.row HN.out) HN.out HS.out HX.out HO.out HL.out).mono ?_
      rintro e w5 ⟨A5, m5, c5, rfl, hm5, O⟩
      have F5 := Mm.hid (F4.out.trans (Fr.of_below O.out.2.2) fun _ _ h => h)
      obtain rfl : m5 = 0 := by
        have h1 := HP.out
        have h2 := O.out.1
        omega
      clear F4 PM O
      go_wp2_with fail
      refine (twin_any _ _ _ ps _ ((F3.out.trans F5.out fun _ _ h => h).rd R.out fun _ _ h => h) HN.out HR.out).mono ?_
      rintro e w6 ⟨g6, k6, rfl, hk6, hl6, PM⟩
      have F6 := Mm.hid (F5.out.trans (Fr.of_below PM.out.1.fr) fun _ _ h => h)
      go_wp2_with fail
      refine (path_row ps x x _ _ _ _ (mine_rd PM.out.1.row HN.out) HN.out HS.out HX.out HX.out HL.out).mono ?_
      rintro e w7 ⟨A7, m7, c7, rfl, hm7, O⟩
      have F7 := Mm.hid (F6.out.trans (Fr.of_below O.out.2.2) fun _ _ h => h)
      obtain rfl : m7 = 1 := by rw [← O.out.1]; exact pathL_self ps x
      go_wp2_with fail
      go_meet
      exact ⟨rfl, F7⟩
  case rest =>
    obtain ⟨rfl, FC⟩ := hcut
    rename_i wc
    have R3 := Mm.hid ((F3.out.trans FC.out fun _ _ h => h).rd R.out fun _ _ h => h)
    have LR := Mm.hid (FC.out.rd L3.out fun _ _ h => h)
    have FW := Mm.hid (F3.out.trans FC.out fun _ _ h => h)
    clear F3 FC L3 R
    go_wp2_with fail
    go_loopw [9] (fun iv wr => ∃ i : Nat, i ≤ m ∧ iv = .int .i64 (i : Nat) ∧ Hid (Fr (fun _ => False) wc wr)) (fun iv _ => m - (intOf iv).toNat)
    case atStart => exact ⟨0, Nat.zero_le _, rfl, Fr.refl _ _⟩
    case round =>
      obtain ⟨i, hi, rfl, HF⟩ := hrel
      by_cases hlt : i < m
      · obtain ⟨y, hy⟩ : ∃ y, (upL ps x)[i]? = some y := ⟨_, List.getElem?_eq_getElem (by rw [LL.out]; exact hlt)⟩
        obtain ⟨ad, rfl, _, t1⟩ := (HF.out.rd LR.out fun _ _ h => h).cell (strs_get hy)
        obtain ⟨q1, q2, q3⟩ := pathL_way hy
        have HY : Hid (y.size ≤ maxLen) := all_sz HS.out HX.out y (upL_all ps x y (List.mem_of_getElem? hy))
        have Q1 := Mm.hid q1
        have Q2 := Mm.hid q2
        have Q3 := Mm.hid q3
        have RW := Mm.hid (HF.out.rd R3.out fun _ _ h => h)
        have F0 := Mm.hid (Fr.refl (fun _ => False) wr)
        clear hy q1 q2 q3
        go_wp2_with fail
        go_region_held3 (fun w' => w'.cell? (ad.add i) = some (.string y)) (go_keep)
          (first
            | (go_at_call 27; refine (twin_any _ _ _ ps _ (Fr.rd (by with_reducible repeat (first | exact F0.out | apply fz_drewN | apply fz_drew | apply fz_alloc)) RW.out fun _ _ h => h) HN.out HR.out).mono ?_; rintro e wt ⟨gt, kt, rfl, hkt, hlt', PM⟩; have FT : Hid (Fr (fun _ => False) wr wt) := Mm.hid (Fr.trans (by with_reducible repeat (first | exact F0.out | apply fz_drewN | apply fz_drew | apply fz_alloc)) (Fr.of_below PM.out.1.fr) fun _ _ h => h); have RT := Mm.hid (mine_rd PM.out.1.row HN.out); have FT0 := Mm.hid (Fr.refl (fun _ => False) wt); have y1 : wt.cell? (ad.add i) = some (.string y) := FT.out.cell t1 (fun h => h); clear PM)
            | (go_at_call 32; refine (path_row ps x y _ _ _ _ (Fr.rd (by with_reducible repeat (first | exact FT0.out | apply fz_drewN | apply fz_drew | apply fz_alloc)) RT.out fun _ _ h => h) HN.out HS.out HX.out HY.out HL.out).mono ?_; rintro e wp ⟨A5, m5, c5, rfl, hm5, O⟩; have FP : Hid (Fr (fun _ => False) wr wp) := Mm.hid (Fr.trans (by with_reducible repeat (first | exact FT.out | apply fz_drewN | apply fz_drew | apply fz_alloc)) (Fr.of_below O.out.2.2) fun _ _ h => h); have E5 := Mm.hid O.out.1; have R5 := Mm.hid (row_rd O.out.2.1); have FP0 := Mm.hid (Fr.refl (fun _ => False) wp); have y2 : wp.cell? (ad.add i) = some (.string y) := FP.out.cell t1 (fun h => h); clear O)
            | (go_at_call 38; refine (way_true ps _ _ _ (pathL ps x y) _ _ _ x y _ (Fr.rd (by with_reducible repeat (first | exact FP.out | apply fz_drewN | apply fz_drew | apply fz_alloc)) RW.out fun _ _ h => h) HN.out (by omega) (Fr.rd (by with_reducible repeat (first | exact FP0.out | apply fz_drewN | apply fz_drew | apply fz_alloc)) R5.out fun _ _ h => h) E5.out (by have h1 := HPL.out y; have h2 := E5.out; omega) Q1.out Q2.out Q3.out).mono ?_; rintro e ww ⟨rfl, FV⟩; have FX : Hid (Fr (fun _ => False) wr ww) := Mm.hid (Fr.trans (by with_reducible repeat (first | exact FP.out | apply fz_drewN | apply fz_drew | apply fz_alloc)) FV.out fun _ _ h => h); have y3 : ww.cell? (ad.add i) = some (.string y) := FX.out.cell t1 (fun h => h)))
        have NX : Hid (Fr (fun _ => False) wc ww) := HF.out.trans FX.out fun _ _ h => h
        clear y1 y2 y3 t1
        go_wp2_with fail
        go_roundw
        case rel => exact ⟨i + 1, by omega, by go_num, NX⟩
        case measure => simp [intOf] <;> omega
      · have him : i = m := by omega
        subst him
        rename_i wd _
        go_wp2_with fail
        go_loopw [11] (fun iv wr => ∃ k : Nat, k ≤ N ∧ iv = .int .i64 (k : Nat) ∧ Hid (Fr (fun _ => False) wc wr)) (fun iv _ => N - (intOf iv).toNat)
        case atStart => exact ⟨0, Nat.zero_le _, rfl, HF⟩
        case round =>
          obtain ⟨k, hk, rfl, HF⟩ := hrel
          by_cases hlt : k < N
          · obtain ⟨p, hp⟩ : ∃ p, ps[k]? = some p := ⟨_, List.getElem?_eq_getElem (by rw [HN.out]; exact hlt)⟩
            obtain ⟨ada, rfl, _, t1, t2⟩ := rd_pr (HF.out.rd R3.out fun _ _ h => h) HN.out hp
            have hpm := List.mem_of_getElem? hp
            have HP5 := Mm.hid (HS.out.a p hpm)
            have HP6 := Mm.hid (HS.out.b p hpm)
            have PP : Hid (0 < (pathL ps x p.a).length → 0 < (pathL ps x p.b).length ∧ (pathL ps x p.b).length ≤ (pathL ps x p.a).length + 1) := pathL_pair hpm
            have RW := Mm.hid (HF.out.rd R3.out fun _ _ h => h)
            have F5 := Mm.hid (Fr.refl (fun _ => False) wr)
            clear hp hpm
            go_wp2_with fail
            go_region_held3 (fun w' => w'.cell? (ada.add (k * 2)) = some (.string p.a)) (go_keep)
              (first
                | (go_at_call 27; refine (twin_any _ _ _ ps _ (Fr.rd (by with_reducible repeat (first | exact F5.out | apply fz_drewN | apply fz_drew | apply fz_alloc)) RW.out fun _ _ h => h) HN.out HR.out).mono ?_; rintro e wt5 ⟨gt5, kt5, rfl, hkt5, hlt5', PM⟩; have FT5 : Hid (Fr (fun _ => False) wr wt5) := Mm.hid (Fr.trans (by with_reducible repeat (first | exact F5.out | apply fz_drewN | apply fz_drew | apply fz_alloc)) (Fr.of_below PM.out.1.fr) fun _ _ h => h); have RT5 := Mm.hid (mine_rd PM.out.1.row HN.out); have FT50 := Mm.hid (Fr.refl (fun _ => False) wt5); have y1 : wt5.cell? (ada.add (k * 2)) = some (.string p.a) := FT5.out.cell t1 (fun h => h); clear PM)
                | (go_at_call 32; refine (path_row ps x p.a _ _ _ _ (Fr.rd (by with_reducible repeat (first | exact FT50.out | apply fz_drewN | apply fz_drew | apply fz_alloc)) RT5.out fun _ _ h => h) HN.out HS.out HX.out HP5.out HL.out).mono ?_; rintro e wp5 ⟨A5, m5, c5, rfl, hm5, O⟩; have FP5 : Hid (Fr (fun _ => False) wr wp5) := Mm.hid (Fr.trans (by with_reducible repeat (first | exact FT5.out | apply fz_drewN | apply fz_drew | apply fz_alloc)) (Fr.of_below O.out.2.2) fun _ _ h => h); have E5 := Mm.hid O.out.1; have y2 : wp5.cell? (ada.add (k * 2)) = some (.string p.a) := FP5.out.cell t1 (fun h => h); clear O))
            have t2' := FP5.out.cell t2 (fun h => h)
            have F6 := Mm.hid FP5.out
            clear y1 y2 t1
            go_wp2_with fail
            go_region_held3 (fun w' => w'.cell? ⟨(ada.add (k * 2)).block, (ada.add (k * 2)).off + 1, none⟩ = some (.string p.b)) (go_keep)
              (first
                | (go_at_call 27; refine (twin_any _ _ _ ps _ (Fr.rd (by with_reducible repeat (first | exact F6.out | apply fz_drewN | apply fz_drew | apply fz_alloc)) RW.out fun _ _ h => h) HN.out HR.out).mono ?_; rintro e wt6 ⟨gt6, kt6, rfl, hkt6, hlt6', PM⟩; have FT6 : Hid (Fr (fun _ => False) wr wt6) := Mm.hid (Fr.trans (by with_reducible repeat (first | exact F6.out | apply fz_drewN | apply fz_drew | apply fz_alloc)) (Fr.of_below PM.out.1.fr) fun _ _ h => h); have RT6 := Mm.hid (mine_rd PM.out.1.row HN.out); have FT60 := Mm.hid (Fr.refl (fun _ => False) wt6); have y1 : wt6.cell? ⟨(ada.add (k * 2)).block, (ada.add (k * 2)).off + 1, none⟩ = some (.string p.b) := FT6.out.cell t2 (fun h => h); clear PM)
                | (go_at_call 32; refine (path_row ps x p.b _ _ _ _ (Fr.rd (by with_reducible repeat (first | exact FT60.out | apply fz_drewN | apply fz_drew | apply fz_alloc)) RT6.out fun _ _ h => h) HN.out HS.out HX.out HP6.out HL.out).mono ?_; rintro e wp6 ⟨A6, m6, c6, rfl, hm6, O⟩; have FP6 : Hid (Fr (fun _ => False) wr wp6) := Mm.hid (Fr.trans (by with_reducible repeat (first | exact FT6.out | apply fz_drewN | apply fz_drew | apply fz_alloc)) (Fr.of_below O.out.2.2) fun _ _ h => h); have E6 := Mm.hid O.out.1; have y2 : wp6.cell? ⟨(ada.add (k * 2)).block, (ada.add (k * 2)).off + 1, none⟩ = some (.string p.b) := FP6.out.cell t2 (fun h => h); clear O))
            have NX : Hid (Fr (fun _ => False) wc wp6) := HF.out.trans FP6.out fun _ _ h => h
            have b5 := HPL.out p.a
            have b6 := HPL.out p.b
            have hpp := PP.out
            rw [E5.out, E6.out] at hpp
            rw [E5.out] at b5
            rw [E6.out] at b6
            clear y1 y2 t2 t2'
            by_cases h0 : m5 = 0
            · subst h0
              clear hpp
              go_wp2_with fail
              go_roundw
              case rel => exact ⟨k + 1, by omega, by go_num, NX⟩
              case measure => simp [intOf] <;> omega
            · have z5 : (0 : Int) < (m5 : Int) := by omega
              have z6 : ((m6 : Int) == 0) = false := beq_eq_false_iff_ne.2 (by omega)
              have z7 : IntKind.i64.wrap ((m5 : Int) + 1) = (m5 : Int) + 1 := IntWalk.i64_in _ (by omega)
              have z8 : (m6 : Int) ≤ (m5 : Int) + 1 := by omega
              clear hpp h0
              go_wp2_with fail
              go_roundw
              case rel => exact ⟨k + 1, by omega, by go_num, NX⟩
              case measure => simp [intOf] <;> omega
          · have hkn : k = N := by omega
            subst hkn
            have FE := Mm.hid ((FW.out.trans HF.out fun _ _ h => h).below (B := w.heap.size) (fun _ h => h.elim) (Nat.le_refl _))
            go_wp2_with fail
            go_ret
            exact ⟨rfl, FE.out⟩
end Go.Proofs.Ythjldlgmfplngaa

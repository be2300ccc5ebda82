/- Walk: the document's Path. -/
import Derived.Test.YthjldlgmfplngaaPath
namespace Go.Proofs.Ythjldlgmfplngaa
open Go.RowKit Go.Mm Go.Maps Go.Reach Go.WideMaps
/-- where a way begins: by number -/
def AtR (ps : List Pr) (x t : ByteArray) (a : Int) (wy : List ByteArray) : Prop :=
  (a = -1 ∧ pathL ps x t = wy) ∨ ∃ (q : Nat) (y : ByteArray), a = (q : Int) ∧ (upL ps x)[q]? = some y ∧ pathL ps x t = pathL ps x y ++ wy
/-- a step on the way back -/
theorem AtR.step {ps : List Pr} {x t : ByteArray} {q : Nat} {y : ByteArray} {wy : List ByteArray} {R : List Int} (hR : Rooted (byL ps x) x (upL ps x) R) (hq : (upL ps x)[q]? = some y) (hw : pathL ps x t = pathL ps x y ++ wy) :
    ∃ a : Int, R[q]? = some a ∧ AtR ps x t a (y :: wy) ∧ -1 ≤ a ∧ a < q ∧ wy.length + 1 ≤ (pathL ps x t).length := by
  rcases Nat.eq_zero_or_pos q with h0 | h0
  · subst h0
    have hy : x = y := by have := hR.fst; rw [hq] at this; injection this with this; exact this.symm
    subst hy
    have e : pathL ps x x = [x] := hR.first (Nat.le_refl _)
    rw [e] at hw
    exact ⟨-1, hR.root, .inl ⟨rfl, hw⟩, by omega, by omega, by rw [hw]; simp⟩
  · obtain ⟨j, z, hj, hRq, hz, hr⟩ := hR.up q y h0 hq
    have e : pathL ps x y = pathL ps x z ++ [y] := hR.step h0 hq hz hr hj (Nat.le_refl _)
    rw [e, List.append_assoc] at hw
    exact ⟨(j : Int), hRq, .inr ⟨j, z, rfl, hz, hw⟩, by omega, by omega, by rw [hw]; simp⟩
/-- the place of a name, so many looked at -/
def FndR (L : List ByteArray) (t : ByteArray) (i : Nat) (a : Int) : Prop := (a = -1 ∧ t ∉ L.take i) ∨ ∃ q : Nat, a = (q : Int) ∧ q < i ∧ L[q]? = some t
set_option maxRecDepth 100000 in
set_option maxHeartbeats 1000000 in
theorem rpath_row (ps : List Pr) (x t : ByteArray) (A : Option Addr) (N c : Nat) (w : World) (hr : Rd w A N 2 (ps.flatMap fPr)) (hN : ps.length = N) (hl : N * 32 + 16 ≤ 140737488355328) :
    Calls Try.prog 31 #[.slice A N c, .string x, .string t] w (RowE w (pathL ps x t)) := by
  have BC := Mm.hid (breadth_any ps x A N c w hr hN hl)
  have HL := Mm.hid hl
  have HN := Mm.hid hN
  have hN9 : N ≤ 4398046511104 := by omega
  clear hr hN hl
  go_enter Try.func31, Try.ntmps31
  go_wp2_with (go_at_call 42; refine BC.out.mono ?_; rintro e w1 ⟨v, r, L, k, rfl, h1, h2, h3, h4, h5⟩; obtain ⟨A1, c1, rfl, hc1, _, _⟩ := own_slice h3; obtain ⟨A2, c2, rfl, hc2, _, _⟩ := own_slice h4; have H1 := Mm.hid h1; have H2 := Mm.hid h2; have H3 := Mm.hid h3; have H4 := Mm.hid h4; have H5 := Mm.hid h5; clear h1 h2 h3 h4 h5)
  have hL : L = upL ps x := Whole.uniq (f := line ps) (l0 := [x]) ⟨k, H1.out, H2.out⟩ (upL_whole ps x)
  subst hL
  have RT : Hid (Rooted (byL ps x) x (upL ps x) (rs (line ps) [x] k)) := by
    have h := rooted_of (f := line ps) (x := x) (k := k) (by rw [← H1.out]; exact H2.out)
    rw [← H1.out] at h
    exact h
  obtain ⟨m, hm⟩ : ∃ m, (upL ps x).length = m := ⟨_, rfl⟩
  have HM := Mm.hid hm
  have hm9 : m ≤ N + 1 := by have := upL_len ps x; rw [hm, HN.out] at this; exact this
  obtain ⟨w2, hw2⟩ : ∃ w2, w1.alloc (.cells #[.slice A1 m c1, .slice A2 m c2] 66) = w2 := ⟨_, rfl⟩
  have F2 : Hid (Fr (fun _ => False) w1 w2) := by show Fr _ _ _; rw [← hw2]; exact Fr.alloc (fun _ => False) w1 _
  have B2 : Hid (Blk w2 w1.heap.size 66 #[.slice A1 m c1, .slice A2 m c2]) := by show Blk _ _ _ _; rw [← hw2]; exact Blk.new w1 _ _
  have R1 : Hid (Rd w2 A1 m 1 (strs (upL ps x))) := by
    have h := Rd.of_own H3.out
    rw [hm] at h
    exact F2.out.rd h fun _ _ h => h
  have R2 : Hid (Rd w2 A2 m 1 (iL (rs (line ps) [x] k))) := by
    have h := Rd.of_own H4.out
    rw [hm] at h
    exact F2.out.rd h fun _ _ h => h
  have FW := Mm.hid (Fr.below (B := w.heap.size) (H5.out.trans F2.out fun _ _ h => h) (fun _ h => h.elim) (Nat.le_refl _))
  have d0 : w2.cell? ⟨w1.heap.size, 0, none⟩ = some (.slice A1 m c1) := B2.out.cell 0
  have d1 : w2.cell? ⟨w1.heap.size, 1, none⟩ = some (.slice A2 m c2) := B2.out.cell 1
  rw [hm] at hc1 hc2 ⊢
  rw [hw2]
  clear hw2 H1 H2 H3 H4 H5 F2 hm
  have ST : Hid (FndR (upL ps x) t 0 (-1)) := .inl ⟨rfl, by simp⟩
  generalize w1.heap.size = rb at *
  go_loopw [8, 9] (fun av iv wr => ∃ (i : Nat) (a : Int), i ≤ m ∧ iv = .int .i64 (i : Nat) ∧ av = .int .i64 a ∧ wr = w2 ∧ Hid (FndR (upL ps x) t i a)) (fun _ iv _ => m - (intOf iv).toNat)
  case atStart => exact ⟨0, -1, Nat.zero_le _, rfl, rfl, rfl, ST.out⟩
  case round =>
    obtain ⟨i, a, hi, rfl, rfl, hwr, HF⟩ := hrel
    rw [hwr]
    clear hwr ST
    by_cases hlt : i < m
    · obtain ⟨y, hy⟩ : ∃ y, (upL ps x)[i]? = some y := ⟨_, List.getElem?_eq_getElem (by rw [HM.out]; exact hlt)⟩
      obtain ⟨ad, rfl, _, f1⟩ := R1.out.cell (strs_get hy)
      have HY := Mm.hid hy
      clear hy
      by_cases hyt : y = t
      · subst hyt
        have hs := str_same y
        have NX : Hid (FndR (upL ps x) y (i + 1) (i : Int)) := .inr ⟨i, rfl, by omega, HY.out⟩
        clear HF
        go_wp2_with fail
        go_roundw
        case rel => exact ⟨i + 1, i, by omega, by go_num, rfl, trivial, NX.out⟩
        case measure => simp [intOf] <;> omega
      · have hs := str_ne hyt
        have NX : Hid (FndR (upL ps x) t (i + 1) a) := by
          rcases HF.out with ⟨h1, h2⟩ | ⟨q, h1, h2, h3⟩
          · exact .inl ⟨h1, not_in_snoc h2 HY.out hyt⟩
          · exact .inr ⟨q, h1, by omega, h3⟩
        clear HF hyt
        go_wp2_with fail
        go_roundw
        case rel => exact ⟨i + 1, a, by omega, by go_num, rfl, trivial, NX.out⟩
        case measure => simp [intOf] <;> omega
    · have him : i = m := by omega
      subst him
      have AT : Hid (AtR ps x t a []) := by
        rcases HF.out with ⟨h1, h2⟩ | ⟨q, h1, h2, h3⟩
        · refine .inl ⟨h1, RT.out.none fun h => h2 ?_⟩
          rw [List.take_of_length_le (by rw [HM.out]; exact Nat.le_refl _)]
          exact h
        · exact .inr ⟨q, t, h1, h3, by simp⟩
      clear HF
      go_wp2_with fail
      have ST2 : Hid (AtR ps x t a [] ∧ w2.ownsRow w2.heap.size 9 1 (.slice none 0 0) 0 (strs []) ∧ Below w2.heap.size w2 w2) := ⟨AT.out, nil_row _ _, Below.refl _ _⟩
      clear AT
      go_loopw [8, 10, 11] (fun av wv _ wq => ∃ (a : Int) (A3 : Option Addr) (j c3 : Nat) (wy : List ByteArray), av = .int .i64 a ∧ wv = .slice A3 j c3 ∧ j ≤ c3 ∧ wy.length = j ∧ Hid (AtR ps x t a wy ∧ wq.ownsRow w2.heap.size 9 1 (.slice A3 j c3) j (strs wy) ∧ Below w2.heap.size w2 wq)) (fun av _ _ _ => (intOf av + 1).toNat)
      case atStart => exact ⟨a, none, 0, 0, [], rfl, rfl, Nat.le_refl _, rfl, ST2.out⟩
      case round =>
        obtain ⟨a, A3, j, c3, wy, rfl, rfl, hc3, hj, HQ⟩ := hrel
        clear ST2
        have b0 : wr.cell? ⟨rb, 0, none⟩ = some (.slice A1 i c1) := ((Fr.of_below HQ.out.2.2).blk B2.out fun h => h).cell 0
        by_cases ha : a = -1
        · subst ha
          have PX : Hid (pathL ps x t = wy) := by
            rcases HQ.out.1 with ⟨_, h⟩ | ⟨q, y, h, _⟩
            · exact h
            · omega
          go_wp2_with fail
          go_ret
          refine ⟨A3, j, c3, rfl, hc3, by rw [PX.out]; exact hj, ?_, FW.out.trans (HQ.out.2.2.mono FW.out.size)⟩
          rw [PX.out]
          exact own_mono HQ.out.2.1 FW.out.size
        · obtain ⟨q, y, rfl, hq, hw⟩ : ∃ (q : Nat) (y : ByteArray), a = (q : Int) ∧ (upL ps x)[q]? = some y ∧ pathL ps x t = pathL ps x y ++ wy := HQ.out.1.resolve_left fun h => ha h.1
          obtain ⟨a', hR, hA, ha1, ha2, hlen⟩ := AtR.step RT.out hq hw
          have hj1 : j + 1 ≤ N + 1 := by
            have := pathL_len ps x t
            rw [HN.out] at this
            omega
          have hqi : q < i := by rw [← HM.out]; exact (List.getElem?_eq_some_iff.1 hq).1
          obtain ⟨ad1, rfl, _, f1⟩ := (R1.out.below HQ.out.2.2).cell (strs_get hq)
          obtain ⟨ad2, rfl, _, _⟩ := R2.out.cell (iL_get hR)
          have HA := Mm.hid hA
          have HRq := Mm.hid hR
          have RW := Mm.hid ((Rd.of_own HQ.out.2.1).alloc (.cells #[.string y] 9))
          have RO := Mm.hid (own_lit1 wr w2.heap.size 9 (.string y) HQ.out.2.2.size)
          have BO := Mm.hid (HQ.out.2.2.alloc HQ.out.2.2.size (.cells #[.string y] 9))
          have HL1 : Hid ((1 + j) * 16 ≤ 140737488355328) := by show _ ≤ _; have := HL.out; omega
          clear hq hw hA ha hlen hR
          go_wp2_with (at_builtin; go_must (refine wp_ape w2.heap.size rfl (.tmp 38) (.tmp 39) 33 9 (.string ByteArray.empty) 1 16 rfl Try.underlying33 info9 rfl (by decide) (by decide) (.slice (some ⟨wr.heap.size, 0, none⟩) 1 1) 1 [.string y] A3 j c3 (strs wy) rfl rfl RW.out (strs_one wy) RO.out BO.out BO.out.size HL1.out ?_; intro v1 wb k1 k2 k3 k4; have b1 : wb.cell? ⟨rb, 1, none⟩ = some (.slice (some ad2) i c2) := ((Fr.of_below k2).blk B2.out fun h => h).cell 1; obtain ⟨_, he, _, f2⟩ := (R2.out.below k2).cell (iL_get HRq.out); cases he; obtain ⟨A4, c4, hv, hc4, _, _⟩ := own_slice k1; subst hv; have K1 := Mm.hid k1; have K2 := Mm.hid k2; clear k1 k2 k3 k4))
          have NX : Hid (AtR ps x t a' (y :: wy) ∧ wb.ownsRow w2.heap.size 9 1 (.slice A4 (1 + j) c4) (1 + j) (strs (y :: wy)) ∧ Below w2.heap.size w2 wb) := ⟨HA.out, K1.out, K2.out⟩
          go_roundw
          case rel => exact ⟨a', A4, 1 + j, c4, y :: wy, rfl, rfl, hc4, by rw [List.length_cons, hj, Nat.add_comm], NX.out⟩
          case measure => simp [intOf] <;> omega
end Go.Proofs.Ythjldlgmfplngaa

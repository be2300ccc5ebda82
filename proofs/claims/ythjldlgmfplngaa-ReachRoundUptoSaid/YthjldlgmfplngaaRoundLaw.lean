/- The walk of ReachRound. -/
import Derived.Test.YthjldlgmfplngaaLdw
namespace Go.Proofs.Ythjldlgmfplngaa
open Go.RowKit Go.Mm Go.Maps Go.Reach Go.WideMaps
/-- so many rings looked through for a name -/
def OutR (ps : List Pr) (a b : ByteArray) (i q : Nat) (r : Bool) : Prop :=
  (q = 0 ∧ r = false ∧ ∀ (j : Nat) (l : List ByteArray), j < i → (ringsL ps)[j]? = some l → a ∉ l) ∨
  (q = 1 ∧ ∃ (j : Nat) (l : List ByteArray), j < i ∧ (ringsL ps)[j]? = some l ∧ a ∈ l ∧ r = isIn l b)
/-- .. and so many names of the next one -/
def InnR (ps : List Pr) (a b : ByteArray) (i k q : Nat) (r : Bool) : Prop :=
  (q = 0 ∧ r = false ∧ (∀ (j : Nat) (l : List ByteArray), j < i → (ringsL ps)[j]? = some l → a ∉ l) ∧ ∀ l, (ringsL ps)[i]? = some l → a ∉ l.take k) ∨
  (q = 1 ∧ ∃ (j : Nat) (l : List ByteArray), j ≤ i ∧ (ringsL ps)[j]? = some l ∧ a ∈ l ∧ r = isIn l b ∧ (j = i → a ∈ l.take k))
theorem cnt_le (ps : List Pr) : cnt ps ≤ 2 * ps.length := by
  have h := nodup_le (web_ok (prs ps)).nd (U := ps.map Pr.a ++ ps.map Pr.b) fun s hs => by
    obtain ⟨q, hq, h⟩ := ((web_wl (prs ps)).ns s).1 hs
    obtain ⟨p, hp, e1, e2⟩ := mem_prs.1 hq
    rw [List.mem_append, List.mem_map, List.mem_map]
    rcases h with h | h
    · exact .inl ⟨p, hp, e1.trans h⟩
    · exact .inr ⟨p, hp, e2.trans h⟩
  rw [List.length_append, List.length_map, List.length_map] at h
  show (web (prs ps)).ns.length ≤ _
  omega
theorem filter_range_le (f : Nat → Bool) (n : Nat) : ((List.range n).filter f).length ≤ n := by
  have := List.length_filter_le f (List.range n)
  rwa [List.length_range] at this
theorem rings_len (ps : List Pr) : (ringsL ps).length ≤ 2 * ps.length := by
  rw [rings_fst, List.length_map]
  exact Nat.le_trans (filter_range_le _ _) (cnt_le ps)
theorem ring_len {ps : List Pr} {i : Nat} {l : List ByteArray} (h : (ringsL ps)[i]? = some l) : l.length ≤ 2 * ps.length := by
  obtain ⟨j, _, _, _, rfl⟩ := ring_at h
  unfold rgo ringOf
  rw [List.length_map]
  exact Nat.le_trans (filter_range_le _ _) (cnt_le ps)
section
variable {ps : List Pr} {a b : ByteArray} {i k q : Nat} {r : Bool} {l : List ByteArray}
theorem OutR.inn (h : OutR ps a b i q r) : InnR ps a b i 0 q r := by
  rcases h with ⟨h1, h2, h3⟩ | ⟨h1, j, l, h2, h3, h4, h5⟩
  · exact .inl ⟨h1, h2, h3, fun l _ => by simp⟩
  · exact .inr ⟨h1, j, l, by omega, h3, h4, h5, fun e => by omega⟩
theorem InnR.out (h : InnR ps a b i k q r) (hl : (ringsL ps)[i]? = some l) (hk : l.length ≤ k) : OutR ps a b (i + 1) q r := by
  rcases h with ⟨h1, h2, h3, h4⟩ | ⟨h1, j, l', h2, h3, h4, h5, h6⟩
  · refine .inl ⟨h1, h2, fun j l' hj hl' => ?_⟩
    rcases Nat.lt_or_ge j i with h | h
    · exact h3 j l' h hl'
    · obtain rfl : j = i := by omega
      rw [hl] at hl'
      injection hl' with hl'
      subst hl'
      have := h4 l hl
      rwa [List.take_of_length_le hk] at this
  · exact .inr ⟨h1, j, l', by omega, h3, h4, h5⟩
theorem InnR.skip (h : InnR ps a b i k q r) (hl : (ringsL ps)[i]? = some l) {y : ByteArray} (hy : l[k]? = some y) (hne : y ≠ a) : InnR ps a b i (k + 1) q r := by
  rcases h with ⟨h1, h2, h3, h4⟩ | ⟨h1, j, l', h2, h3, h4, h5, h6⟩
  · refine .inl ⟨h1, h2, h3, fun l' hl' => ?_⟩
    rw [hl] at hl'
    injection hl' with hl'
    subst hl'
    exact not_in_snoc (h4 l hl) hy hne
  · exact .inr ⟨h1, j, l', h2, h3, h4, h5, fun e => (List.take_subset_take_left _ (by omega)) (h6 e)⟩
theorem InnR.hit (h : InnR ps a b i k q r) (hl : (ringsL ps)[i]? = some l) (hy : l[k]? = some a) : q = 0 ∧ r = false ∧ InnR ps a b i (k + 1) 1 (isIn l b) := by
  have ha := List.mem_of_getElem? hy
  rcases h with ⟨h1, h2, h3, h4⟩ | ⟨h1, j, l', h2, h3, h4, h5, h6⟩
  · refine ⟨h1, h2, .inr ⟨rfl, i, l, Nat.le_refl _, hl, ha, rfl, fun _ => ?_⟩⟩
    rw [take_snoc' hy]
    simp
  · exfalso
    have hji := ring_one h3 hl h4 ha
    subst hji
    rw [hl] at h3
    injection h3 with h3
    subst h3
    obtain ⟨m, hm⟩ := List.getElem?_of_mem (h6 rfl)
    have hml := (List.getElem?_eq_some_iff.1 hm).1
    rw [List.length_take] at hml
    rw [List.getElem?_take_of_lt (by omega)] at hm
    have := nd_at (ring_nodup hl) hm hy
    omega
theorem OutR.fin (h : OutR ps a b i q r) (hi : (ringsL ps).length ≤ i) : (q = 0 ∧ r = false ∧ ¬ Lead ps a a) ∨ (q = 1 ∧ Lead ps a a ∧ (r = true ↔ Lead ps a b ∧ Lead ps b a)) := by
  rcases h with ⟨h1, h2, h3⟩ | ⟨h1, j, l, h2, h3, h4, h5⟩
  · refine .inl ⟨h1, h2, fun hL => ?_⟩
    obtain ⟨j, l, hl, ha⟩ := ring_ex hL
    have := (List.getElem?_eq_some_iff.1 hl).1
    exact h3 j l (by omega) hl ha
  · refine .inr ⟨h1, ((ring_lead h3 h4 a).1 h4).1, ?_⟩
    rw [h5, isIn_iff]
    exact ring_lead h3 h4 b
end
set_option maxRecDepth 100000 in
set_option maxHeartbeats 4000000 in
theorem law_round (A : Option Addr) (N c : Nat) (ps : List Pr) (x o : ByteArray) (w : World) (h : Sl w 2 32 fPr gPr A N c ps) (hx : x.size ≤ 140737488351232) (ho : o.size ≤ 140737488351232) (hu : N ≤ 1048576) :
    Calls Try.prog 11 #[.slice A N c, .string x, .string o] w fun e w' => e = .returned (.bool true) ∧ Below w.heap.size w w' := by
  have R := Mm.hid h.rd
  have HN := Mm.hid h.len
  have hroom : N * 32 ≤ 140737488351232 := h.room
  have HR := Mm.hid hroom
  have HS := Mm.hid (gPr_szs h.good)
  have HX : Hid (x.size ≤ maxLen) := by show _ ≤ _; unfold maxLen; omega
  have HO : Hid (o.size ≤ maxLen) := by show _ ≤ _; unfold maxLen; omega
  have HU := Mm.hid hu
  clear h hroom hx ho
  go_enter Try.func11, Try.ntmps11
  go_wp2_with fail
  refine (alive_any _).mono ?_
  rintro e w1 ⟨rfl, F1⟩
  go_wp2_with fail
  refine (twin_any _ _ _ ps _ (F1.out.rd R.out fun _ _ h => h) HN.out HR.out).mono ?_
  rintro e w2 ⟨g, cm, rfl, hcm, hcm9, PM⟩
  have F2 := Mm.hid (F1.out.trans (Fr.of_below PM.out.1.fr) fun _ _ h => h)
  go_wp2_with fail
  refine (rings_any ps _ _ _ _ (mine_rd PM.out.1.row HN.out) HN.out HS.out (by omega)).mono ?_
  rintro e w3 ⟨Ar, mr, cr, gv, rfl, hmr, RG⟩
  have F3 := Mm.hid (F2.out.trans (Fr.of_below RG.out.2.2) fun _ _ h => h)
  have RL := Mm.hid RG.out.1
  have RB := Mm.hid RG.out.2.1
  have RR := Mm.hid (Rd.of_own RG.out.2.1.own)
  have hgl : gv.length = mr := own_len RG.out.2.1.own
  have GL := Mm.hid hgl
  clear F1 F2 PM RG hgl
  have hmr9 : mr ≤ 4611686018427387904 := by
    have h1 := rings_len ps
    have h2 : (ringsL ps).length = mr := RL.out
    have h3 : ps.length = N := HN.out
    omega
  have LB9 : Hid (∀ (i : Nat) l, (ringsL ps)[i]? = some l → l.length ≤ 4611686018427387904) := fun i l hl => by
    have h1 := ring_len hl
    have h3 : ps.length = N := HN.out
    omega
  go_wp2_with fail
  go_loopw [11, 9, 10] (fun iv qv bv wr => ∃ (i q : Nat) (r : Bool), i ≤ mr ∧ q ≤ 1 ∧ iv = .int .i64 (i : Nat) ∧ qv = .int .i64 (q : Nat) ∧ bv = .bool r ∧ Hid (OutR ps x o i q r) ∧ wr = w3) (fun iv _ _ _ => mr - (intOf iv).toNat)
  case atStart => exact ⟨0, 0, false, Nat.zero_le _, Nat.zero_le _, rfl, rfl, rfl, .inl ⟨rfl, rfl, fun j l hj => by omega⟩, rfl⟩
  case round =>
    obtain ⟨i, q, r, hi, hq, rfl, rfl, rfl, HQ, hwr⟩ := hrel
    rw [hwr]
    clear hwr
    by_cases hlt : i < mr
    · obtain ⟨l, hl⟩ : ∃ l, (ringsL ps)[i]? = some l := ⟨_, List.getElem?_eq_getElem (by rw [RL.out]; exact hlt)⟩
      obtain ⟨u, hu'⟩ : ∃ u, gv[i]? = some u := ⟨_, List.getElem?_eq_getElem (by rw [GL.out]; exact hlt)⟩
      obtain ⟨ad, rfl, _, t1⟩ := RR.out.cell hu'
      have ho := RB.out.fam.own i u (strs l) hu' (by rw [List.getElem?_map, hl]; rfl)
      rw [strs_len] at ho
      obtain ⟨Al, cl', rfl, hcl, _, hRl⟩ := own_slice ho
      have LR := Mm.hid hRl
      have HLL := Mm.hid hl
      have hl9 := LB9.out i l hl
      obtain ⟨n, hn⟩ : ∃ n, l.length = n := ⟨_, rfl⟩
      rw [hn] at LR hcl hl9 t1
      have LN := Mm.hid hn
      have IN := Mm.hid HQ.out.inn
      clear ho hRl hl hn hu'
      go_wp2_with fail
      go_loopw [12, 9, 10] (fun kv qv bv wr => ∃ (k q : Nat) (r : Bool), k ≤ n ∧ q ≤ 1 ∧ kv = .int .i64 (k : Nat) ∧ qv = .int .i64 (q : Nat) ∧ bv = .bool r ∧ Hid (InnR ps x o i k q r) ∧ wr = w3) (fun kv _ _ _ => n - (intOf kv).toNat)
      case atStart => exact ⟨0, q, r, Nat.zero_le _, hq, rfl, rfl, rfl, IN, rfl⟩
      case round =>
        clear IN HQ hq
        obtain ⟨k, q, r, hk, hq, rfl, rfl, rfl, HI, hwr⟩ := hrel
        rw [hwr]
        clear hwr
        by_cases hlt2 : k < n
        · obtain ⟨y, hy⟩ : ∃ y, l[k]? = some y := ⟨_, List.getElem?_eq_getElem (by rw [LN.out]; exact hlt2)⟩
          obtain ⟨ad2, rfl, _, t2⟩ := LR.out.cell (strs_get hy)
          by_cases hyx : y = x
          · subst hyx
            obtain ⟨e1, e2, e3⟩ := HI.out.hit HLL.out hy
            subst e1
            subst e2
            have NX := Mm.hid e3
            have hs1 := str_same y
            have LC : Hid (Calls Try.prog 36 #[.slice (some ad2) n cl', .string o] w3 fun e w' => e = .returned (.bool (isIn l o)) ∧ w' = w3) := hasl_any (some ad2) n cl' l o w3 LR.out hl9
            generalize isIn l o = z at NX LC
            clear e3 hy HI
            go_wp2_with (go_at_call 36; refine LC.out.mono ?_; rintro e w' ⟨rfl, rfl⟩)
            go_roundw
            case rel => exact ⟨k + 1, 1, z, by omega, by omega, by go_num, rfl, rfl, NX, trivial⟩
            case measure => simp [intOf] <;> omega
          · have NX := Mm.hid (HI.out.skip HLL.out hy hyx)
            have hs1 := str_ne hyx
            clear hyx hy HI
            go_wp2_with fail
            go_roundw
            case rel => exact ⟨k + 1, q, r, by omega, hq, by go_num, rfl, rfl, NX, trivial⟩
            case measure => simp [intOf] <;> omega
        · have hkn : k = n := by omega
          have NX := Mm.hid (HI.out.out HLL.out (by rw [LN.out]; omega))
          subst hkn
          clear HI
          go_wp2_with fail
          go_roundw
          case rel => exact ⟨i + 1, q, r, by omega, hq, by go_num, rfl, rfl, NX, trivial⟩
          case measure => simp [intOf] <;> omega
    · have him : i = mr := by omega
      have FIN := Mm.hid (HQ.out.fin (by rw [RL.out]; omega))
      clear HQ RB RR hlt
      subst him
      have LA : Hid (∀ (y z : ByteArray) W, Fr (fun _ => False) w3 W → z.size ≤ maxLen → Calls Try.prog 39 #[.slice A N c, .string y, .string z] W (LedE ps y z W)) := fun y z W hF hz => leads_any ps A N c y z W ((F3.out.trans hF fun _ _ h => h).rd R.out fun _ _ h => h) HN.out HS.out hz HR.out
      go_upto_region 14 with (fail)
      go_cut [13] from 54 to 63 (fun tv wc => ∃ t : Bool, tv = .bool t ∧ Hid (t = true ↔ Lead ps x o ∧ Lead ps o x) ∧ Hid (Fr (fun _ => False) w3 wc))
      case first =>
        go_wp2_with fail
        refine (LA.out x o w3 (Fr.refl _ _) HO.out).mono ?_
        rintro e w4 ⟨r1, rfl, L1⟩
        cases r1
        · go_wp2_with fail
          go_meet
          exact ⟨false, rfl, Mm.hid ⟨fun h => Bool.noConfusion h, fun h => L1.out.1.2 h.1⟩, Mm.hid L1.out.2⟩
        · go_wp2_with fail
          refine (LA.out o x w4 L1.out.2 HX.out).mono ?_
          rintro e w5 ⟨r2, rfl, L2⟩
          have FX := Mm.hid (L1.out.2.trans L2.out.2 fun _ _ h => h)
          have EQ : Hid (r2 = true ↔ Lead ps x o ∧ Lead ps o x) := ⟨fun h => ⟨L1.out.1.1 (by simp), L2.out.1.1 h⟩, fun h => L2.out.1.2 h.2⟩
          go_wp2_with fail
          go_meet
          exact ⟨r2, rfl, EQ, FX⟩
      case rest =>
        obtain ⟨t, rfl, HT, FC⟩ := hcut
        rename_i wc
        go_wp2_with fail
        refine (LA.out x x wc FC.out HX.out).mono ?_
        rintro e w6 ⟨r3, rfl, L3⟩
        have FE := Mm.hid (((F3.out.trans FC.out fun _ _ h => h).trans L3.out.2 fun _ _ h => h).below (B := w.heap.size) (fun _ h => h.elim) (Nat.le_refl _))
        have C3 : Hid (r3 = true ↔ Lead ps x x) := L3.out.1
        clear L3 LA
        rcases FIN.out with ⟨rfl, rfl, hL⟩ | ⟨rfl, hL, hb⟩
        · obtain rfl : r3 = false := by
            cases r3
            · rfl
            · exact absurd (C3.out.1 rfl) hL
          clear hL FIN C3
          cases t
          · go_wp2_with fail
            go_ret
            exact ⟨rfl, FE.out⟩
          · go_wp2_with fail
            go_ret
            exact ⟨rfl, FE.out⟩
        · obtain rfl : r3 = true := C3.out.2 hL
          obtain rfl : r = t := by
            rw [Bool.eq_iff_iff, hb]
            exact HT.out.symm
          clear hL FIN C3 hb HT
          cases r
          · go_wp2_with fail
            go_ret
            exact ⟨rfl, FE.out⟩
          · go_wp2_with fail
            go_ret
            exact ⟨rfl, FE.out⟩
end Go.Proofs.Ythjldlgmfplngaa

/- The document's names, and who leads to whom. -/
import Derived.Test.YthjldlgmfplngaaRow
import Derived.Test.YthjldlgmfplngaaKos
namespace Go.Proofs.Ythjldlgmfplngaa
open Go.RowKit Go.Mm Go.Maps Go.Reach Go.WideMaps
theorem add_put1 (W : Wb ByteArray) (s : ByteArray) : (W.add s).ns = put1 W.ns s := by
  unfold Wb.add put1
  split <;> rfl
theorem ns_take {ps : List Pr} {k : Nat} {p : Pr} (hp : ps[k]? = some p) : (web (prs (ps.take (k + 1)))).ns = put1 (put1 (web (prs (ps.take k))).ns p.a) p.b := by
  rw [take_snoc' hp]
  unfold prs
  rw [List.map_append]
  show (web (List.map _ _ ++ [(p.a, p.b)])).ns = _
  rw [web_snoc]
  show ((((web _).add p.1).add p.2)).ns = _
  rw [add_put1, add_put1]
/-- a list of names under way -/
structure NmR (w0 : World) (v : Value) (m : Nat) (l : List ByteArray) (w : World) : Prop where
  len : l.length = m
  row : w.ownsRow w0.heap.size 9 1 v m (strs l)
  bel : Below w0.heap.size w0 w
theorem one_str (s : ByteArray) : ∀ u ∈ (#[.string s] : Array Value).toList, u.oneCell' = true := by intro u hu; simp at hu; subst hu; rfl
theorem NmR.push {w0 w1 : World} {v : Value} {m : Nat} {l : List ByteArray} {s : ByteArray} (hl : l.length = m) (hs : s ∉ l) (o : w1.ownsRow w0.heap.size 9 1 v (m + 1) (strs l ++ [.string s])) (b : Below w0.heap.size w0 w1) : NmR w0 v (m + 1) (put1 l s) w1 := by
  refine ⟨?_, ?_, b⟩
  · rw [put1_out hs]; simp [hl]
  · rw [put1_out hs, ← strs_snoc]; exact o
set_option maxRecDepth 100000 in
set_option maxHeartbeats 2000000 in
theorem names_any (ps : List Pr) (A : Option Addr) (N c : Nat) (w : World) (hr : Rd w A N 2 (ps.flatMap fPr)) (hN : ps.length = N) (hl : N * 32 ≤ 140737488351232) :
    Calls Try.prog 50 #[.slice A N c] w (RowE w (web (prs ps)).ns) := by
  have R := Mm.hid hr
  have HN := Mm.hid hN
  have HL := Mm.hid hl
  have hN9 : N ≤ 4398046511104 := by omega
  clear hr hN hl
  go_enter Try.func50, Try.ntmps50
  go_wp2_with fail
  have ST : Hid (NmR w (.slice none 0 0) 0 (web (prs (ps.take 0))).ns w) := ⟨rfl, nil_row _ _, Below.refl _ _⟩
  go_loopw [3, 4] (fun lv iv wr => ∃ k m A1 c1, k ≤ N ∧ m ≤ 2 * k ∧ iv = .int .i64 (k : Nat) ∧ lv = .slice A1 m c1 ∧ m ≤ c1 ∧ Hid (NmR w (.slice A1 m c1) m (web (prs (ps.take k))).ns wr)) (fun _ iv _ => N - (intOf iv).toNat)
  case atStart => exact ⟨0, 0, none, 0, Nat.zero_le _, Nat.zero_le _, rfl, rfl, Nat.le_refl _, ST⟩
  case round =>
    obtain ⟨k, m, A1, c1, hk, hm, rfl, rfl, hc1, HQ⟩ := hrel
    clear ST
    by_cases hlt : k < N
    · obtain ⟨p, hp⟩ : ∃ p, ps[k]? = some p := ⟨_, List.getElem?_eq_getElem (by rw [HN.out]; exact hlt)⟩
      obtain ⟨ad, rfl, _, f0, f1⟩ := rd_pr (R.out.below HQ.out.bel) HN.out hp
      have NT := Mm.hid (ns_take hp)
      generalize (web (prs (ps.take k))).ns = l at HQ NT
      have HC : Hid (Calls Try.prog 51 #[.slice A1 m c1, .string p.a] wr fun e w' => e = .returned (.bool (isIn l p.a)) ∧ w' = wr) := has_any A1 m c1 l p.a wr (Rd.of_own HQ.out.row) (by omega)
      obtain ⟨b, hb⟩ : ∃ b, isIn l p.a = b := ⟨_, rfl⟩
      rw [hb] at HC
      have HB := Mm.hid hb
      clear hb
      have HL1 : Hid ((m + 1) * 16 ≤ 140737488355328) := by show _ ≤ _; have := HL.out; omega
      have HL2 : Hid ((m + 1 + 1) * 16 ≤ 140737488355328) := by show _ ≤ _; have := HL.out; omega
      have HP := Mm.hid hp
      clear hp
      go_upto_if 18 with (go_at_call 51; refine HC.out.mono ?_; rintro e w' ⟨rfl, hw⟩; rw [hw]; clear hw w')
      go_cut [3] from 17 to 26 (fun lv wc => ∃ m A1 c1, m ≤ 2 * k + 1 ∧ lv = .slice A1 m c1 ∧ m ≤ c1 ∧ Hid (NmR w (.slice A1 m c1) m (put1 l p.a) wc))
      case first =>
        cases b
        rotate_left
        · have hin := isIn_iff.1 HB.out
          have NX : Hid (NmR w (.slice A1 m c1) m (put1 l p.a) wr) := by show NmR _ _ _ _ _; rw [put1_in hin]; exact HQ.out
          clear hin
          go_wp2_with fail
          go_meet
          exact ⟨m, A1, c1, by omega, rfl, hc1, NX⟩
        · have hin : p.a ∉ l := fun h => by
            have h1 := isIn_true h
            have h2 := HB.out
            rw [h1] at h2
            cases h2
          have HS1 := Mm.hid (one_str p.a)
          have R1 := Mm.hid HQ.out.row
          have T1 := Mm.hid HQ.out.bel
          have LN := Mm.hid HQ.out.len
          have HI := Mm.hid hin
          clear hin HQ
          go_wp2_with (at_builtin; go_must (refine wp_ape1 w.heap.size rfl _ _ 33 9 (.string ByteArray.empty) 1 16 #[.string p.a] rfl Try.underlying33 info9 rfl (by decide) (by decide) (.slice A1 m c1) m _ rfl rfl rfl HS1.out R1.out T1.out T1.out.size HL1.out ?_; intro v1 wb k1 k2 k3 k4; obtain ⟨A2, c2, hv, hc2, _, _⟩ := own_slice k1; subst hv; have NX := Mm.hid (NmR.push LN.out HI.out k1 k2); clear k1 k2 k3 k4))
          go_meet
          exact ⟨m + 1, A2, c2, by omega, rfl, hc2, NX⟩
      case rest =>
        obtain ⟨m2, A2, c2, hm2, rfl, hc2, HQ2⟩ := hcut
        rename_i wc
        obtain ⟨ad', e1, _, g0, g1⟩ := rd_pr (R.out.below HQ2.out.bel) HN.out HP.out
        injection e1 with e1
        subst e1
        have HC2 : Hid (Calls Try.prog 51 #[.slice A2 m2 c2, .string p.b] wc fun e w' => e = .returned (.bool (isIn (put1 l p.a) p.b)) ∧ w' = wc) := has_any A2 m2 c2 (put1 l p.a) p.b wc (Rd.of_own HQ2.out.row) (by omega)
        clear HQ HC f0 f1
        by_cases hin : p.b ∈ put1 l p.a
        · have hi := isIn_true hin
          rw [hi] at HC2
          have NX : Hid (NmR w (.slice A2 m2 c2) m2 (web (prs (ps.take (k + 1)))).ns wc) := by show NmR _ _ _ _ _; rw [NT.out, put1_in hin]; exact HQ2.out
          clear hin hi
          go_wp2_with (go_at_call 51; refine HC2.out.mono ?_; rintro e w' ⟨rfl, hw⟩; rw [hw]; clear hw w')
          go_roundw
          case rel => exact ⟨k + 1, m2, A2, c2, by omega, by omega, by go_num, rfl, hc2, NX⟩
          case measure => simp [intOf] <;> omega
        · have hi := isIn_false hin
          rw [hi] at HC2
          have HS1 := Mm.hid (one_str p.b)
          have R1 := Mm.hid HQ2.out.row
          have T1 := Mm.hid HQ2.out.bel
          have LN := Mm.hid HQ2.out.len
          have HI := Mm.hid hin
          have HL3 : Hid ((m2 + 1) * 16 ≤ 140737488355328) := by show _ ≤ _; have := HL.out; omega
          clear hin HQ2 hi
          go_wp2_with (first | (go_at_call 51; refine HC2.out.mono ?_; rintro e w' ⟨rfl, hw⟩; rw [hw]; clear hw w') | (at_builtin; go_must (refine wp_ape1 w.heap.size rfl _ _ 33 9 (.string ByteArray.empty) 1 16 #[.string p.b] rfl Try.underlying33 info9 rfl (by decide) (by decide) (.slice A2 m2 c2) m2 _ rfl rfl rfl HS1.out R1.out T1.out T1.out.size HL3.out ?_; intro v1 wb k1 k2 k3 k4; obtain ⟨A3, c3, hv, hc3, _, _⟩ := own_slice k1; subst hv; have NX := Mm.hid (NmR.push LN.out HI.out k1 k2); clear k1 k2 k3 k4)))
          have NY : Hid (NmR w (.slice A3 (m2 + 1) c3) (m2 + 1) (web (prs (ps.take (k + 1)))).ns wb) := by show NmR _ _ _ _ _; rw [NT.out]; exact NX.out
          go_roundw
          case rel => exact ⟨k + 1, m2 + 1, A3, c3, by omega, by omega, by go_num, rfl, hc3, NY⟩
          case measure => simp [intOf] <;> omega
    · have hkN : N = k := by omega
      subst hkN
      have HQ2 := HQ.out
      rw [List.take_of_length_le (by rw [HN.out]; exact Nat.le_refl _)] at HQ2
      have HQH := Mm.hid HQ2
      clear HQ HQ2
      go_wp2_with fail
      go_ret
      exact ⟨A1, m, c1, rfl, hc1, HQH.out.len, HQH.out.row, HQH.out.bel⟩
/-- whether a name leads to another one is told -/
def LdE (ps : List Pr) (x y : ByteArray) (w : World) (e : Ending) (w' : World) : Prop := ∃ r : Bool, e = .returned (.bool r) ∧ Hid ((r = true ↔ Lead ps x y) ∧ Fr (fun _ => False) w w')
theorem rd_row {w : World} {base : Nat} {A : Option Addr} {m c : Nat} {l : List ByteArray} (h : w.ownsRow base 9 1 (.slice A m c) m (strs l)) : Rd w A m 1 (strs l) := by
  obtain ⟨A', c', hv, _, _, hR⟩ := own_slice h
  injection hv with e1 e2 e3
  subst e1
  exact hR
set_option maxRecDepth 100000 in
set_option maxHeartbeats 2000000 in
theorem rleads_any (ps : List Pr) (A : Option Addr) (N c : Nat) (x y : ByteArray) (w : World) (hr : Rd w A N 2 (ps.flatMap fPr)) (hN : ps.length = N) (hl : N * 32 ≤ 140737488351232) :
    Calls Try.prog 58 #[.slice A N c, .string x, .string y] w (LdE ps x y w) := by
  have R := Mm.hid hr
  have HN := Mm.hid hN
  have HL : Hid (N * 32 + 16 ≤ 140737488355328) := by show _ ≤ _; omega
  have hN9 : N ≤ 4398046511104 := by omega
  clear hr hN hl
  go_enter Try.func58, Try.ntmps58
  go_wp2_with fail
  go_loopw [7] (fun iv wr => ∃ k : Nat, k ≤ N ∧ iv = .int .i64 (k : Nat) ∧ Hid (∀ p ∈ ps.take k, p.a = x → y ∉ upL ps p.b) ∧ Hid (Fr (fun _ => False) w wr)) (fun iv _ => N - (intOf iv).toNat)
  case atStart => exact ⟨0, Nat.zero_le _, rfl, fun p hp => by simp at hp, Fr.refl _ _⟩
  case round =>
    obtain ⟨k, hk, rfl, HT, HF⟩ := hrel
    by_cases hlt : k < N
    · obtain ⟨p, hp⟩ : ∃ p, ps[k]? = some p := ⟨_, List.getElem?_eq_getElem (by rw [HN.out]; exact hlt)⟩
      have RW := Mm.hid (HF.out.rd R.out fun _ _ h => h)
      obtain ⟨ada, e1, _, t1, t2⟩ := rd_pr RW.out HN.out hp
      have hpm := List.mem_of_getElem? hp
      have NT : ∀ q : Prop, (q → y ∉ upL ps p.b) → (p.a = x → q) → Hid (∀ p ∈ ps.take (k + 1), p.a = x → y ∉ upL ps p.b) := fun q h1 h2 => by
        intro p' hp' he
        rw [take_snoc' hp, List.mem_append, List.mem_singleton] at hp'
        rcases hp' with hp' | hp'
        · exact HT.out p' hp' he
        · subst hp'
          exact h1 (h2 he)
      have NT' := Mm.hid NT
      have YES : Hid (p.a = x → y ∈ upL ps p.b → Lead ps x y) := fun h1 h2 => ⟨p, hpm, h1, h2⟩
      subst e1
      clear NT hp hpm
      by_cases hx : p.a = x
      · have hs1 : ((p.a).toList == x.toList) = true := by rw [hx]; exact str_same x
        have HXE := Mm.hid hx
        have UL := Mm.hid (upL_len ps p.b)
        have UC := Mm.hid (rup_row ps p.b (some ada) N c wr RW.out HN.out HL.out)
        clear hx
        go_wp2_with (go_at_call 18; refine UC.out.mono ?_; rintro e w2 ⟨A2, m2, c2, rfl, hm2, O⟩)
        have NX : Hid (Fr (fun _ => False) w w2) := HF.out.trans (Fr.of_below O.out.2.2) fun _ _ h => h
        obtain ⟨b, hb⟩ : ∃ b, isIn (upL ps p.b) y = b := ⟨_, rfl⟩
        have HC : Hid (Calls Try.prog 51 #[.slice A2 m2 c2, .string y] w2 fun e w' => e = .returned (.bool b) ∧ w' = w2) := by
          have h := has_any A2 m2 c2 (upL ps p.b) y w2 (rd_row O.out.2.1) (by have h1 := UL.out; have h2 := O.out.1; have h3 : ps.length = N := HN.out; omega)
          rwa [hb] at h
        have HB := Mm.hid hb
        clear hb O UC
        cases b
        · have HNX := NT'.out (p.a = x) (fun _ h => by
            have h1 := isIn_true h
            have h2 := HB.out
            rw [h1] at h2
            cases h2) id
          clear NT' HT YES HB
          go_wp2_with (go_at_call 51; refine HC.out.mono ?_; rintro e w' ⟨rfl, hw⟩; rw [hw]; clear hw w')
          go_roundw
          case rel => exact ⟨k + 1, by omega, by go_num, HNX, NX⟩
          case measure => simp [intOf] <;> omega
        · have fin : Hid (Lead ps x y) := YES.out HXE.out (isIn_iff.1 HB.out)
          clear NT' HT YES HB
          go_wp2_with (go_at_call 51; refine HC.out.mono ?_; rintro e w' ⟨rfl, hw⟩; rw [hw]; clear hw w')
          go_ret
          exact ⟨true, rfl, ⟨fun _ => fin.out, fun _ => rfl⟩, NX.out⟩
      · have hs1 := str_ne hx
        have HNX := NT'.out (p.a = x) (fun h => absurd h hx) id
        clear hx NT' HT YES
        go_wp2_with fail
        go_roundw
        case rel => exact ⟨k + 1, by omega, by go_num, HNX, HF⟩
        case measure => simp [intOf] <;> omega
    · have hkn : N = k := by omega
      subst hkn
      have fin : Hid ((false = true ↔ Lead ps x y) ∧ Fr (fun _ => False) w wr) := by
        refine ⟨⟨fun h => Bool.noConfusion h, fun h => ?_⟩, HF.out⟩
        obtain ⟨p, hp, he, hm⟩ := h
        exact absurd hm (HT.out p (by rw [List.take_of_length_le (by rw [HN.out]; exact Nat.le_refl _)]; exact hp) he)
      go_wp2_with fail
      go_ret
      exact ⟨false, rfl, fin⟩
/-- whether two names belong together is told -/
def TgE (ps : List Pr) (x y : ByteArray) (w : World) (e : Ending) (w' : World) : Prop := ∃ r : Bool, e = .returned (.bool r) ∧ Hid ((r = true ↔ Lead ps x y ∧ Lead ps y x) ∧ Fr (fun _ => False) w w')
set_option maxRecDepth 100000 in
set_option maxHeartbeats 2000000 in
theorem together_any (ps : List Pr) (A : Option Addr) (N c : Nat) (x y : ByteArray) (w : World) (hr : Rd w A N 2 (ps.flatMap fPr)) (hN : ps.length = N) (hl : N * 32 ≤ 140737488351232) :
    Calls Try.prog 52 #[.slice A N c, .string x, .string y] w (TgE ps x y w) := by
  have R := Mm.hid hr
  have HN := Mm.hid hN
  have HL := Mm.hid hl
  clear hr hN hl
  go_enter Try.func52, Try.ntmps52
  go_wp2_with fail
  refine (rleads_any ps A N c x y w R.out HN.out HL.out).mono ?_
  rintro e w1 ⟨r1, rfl, h1⟩
  cases r1
  · have fin : Hid ((false = true ↔ Lead ps x y ∧ Lead ps y x) ∧ Fr (fun _ => False) w w1) := ⟨⟨fun h => Bool.noConfusion h, fun h => h1.out.1.2 h.1⟩, h1.out.2⟩
    go_wp2_with fail
    go_ret
    exact ⟨false, rfl, fin⟩
  · have L1 : Hid (Lead ps x y) := h1.out.1.1 rfl
    go_wp2_with fail
    refine (rleads_any ps A N c y x w1 (h1.out.2.rd R.out fun _ _ h => h) HN.out HL.out).mono ?_
    rintro e w2 ⟨r2, rfl, h2⟩
    have fin : Hid ((r2 = true ↔ Lead ps x y ∧ Lead ps y x) ∧ Fr (fun _ => False) w w2) := ⟨⟨fun h => ⟨L1.out, h2.out.1.1 h⟩, fun h => h2.out.1.2 h.2⟩, h1.out.2.trans h2.out.2 fun _ _ h => h⟩
    go_wp2_with fail
    go_ret
    exact ⟨r2, rfl, fin⟩
end Go.Proofs.Ythjldlgmfplngaa

/- The walk of ReachLeast. -/
import Derived.Test.YthjldlgmfplngaaLine
import Derived.Test.YthjldlgmfplngaaUpLaw
namespace Go.Proofs.Ythjldlgmfplngaa
open Go.RowKit Go.Mm Go.Maps Go.Reach Go.WideMaps
theorem upL_hk (ps : List Pr) (x : ByteArray) : (cl (line ps) [x] (all ps x).length).length ≤ (all ps x).length := by
  show (upL ps x).length ≤ _
  rw [all_len]
  exact upL_len ps x
theorem upL_first (ps : List Pr) (x : ByteArray) : (upL ps x)[0]? = some x := (rooted_of (upL_hk ps x)).fst
theorem upL_nodup (ps : List Pr) (x : ByteArray) : (upL ps x).Nodup := (upL_whole ps x).nodup (by simp)
theorem upL_pair {ps : List Pr} {x : ByteArray} {p : Pr} (hp : p ∈ ps) (h : p.a ∈ upL ps x) : p.b ∈ upL ps x :=
  (upL_whole ps x).closed _ h _ (mem_line.2 ⟨p, hp, rfl, rfl⟩)
theorem upL_reason {ps : List Pr} {x y : ByteArray} {i : Nat} (hi : 0 < i) (hy : (upL ps x)[i]? = some y) : ∃ j z, j < i ∧ (upL ps x)[j]? = some z ∧ y ∈ line ps z := by
  obtain ⟨j, z, hj, hz, hw, _⟩ := turn_of (upL_hk ps x) hi hy
  exact ⟨j, z, hj, hz, why_in hw⟩
set_option maxRecDepth 100000 in
set_option maxHeartbeats 4000000 in
theorem law_least (A : Option Addr) (N c : Nat) (ps : List Pr) (x : ByteArray) (w : World) (h : Sl w 2 32 fPr gPr A N c ps) (hx : x.size ≤ 140737488351232) :
    Calls Try.prog 8 #[.slice A N c, .string x] w fun e w' => e = .returned (.bool true) ∧ Below w.heap.size w w' := by
  have R := Mm.hid h.rd
  have HN := Mm.hid h.len
  have hcap : N ≤ c := h.cap
  have hroom : N * 32 ≤ 140737488351232 := h.room
  have HR := Mm.hid hroom
  have HL : Hid (N * 32 + 16 ≤ 140737488355328) := by show _ ≤ _; omega
  have hN9 : N ≤ 4398046511104 := by omega
  have HS := Mm.hid (gPr_szs h.good)
  have HX : Hid (x.size ≤ maxLen) := by show _ ≤ _; unfold maxLen; omega
  have UL := Mm.hid (upL_len ps x)
  clear h hroom hx
  go_enter Try.func8, Try.ntmps8
  go_wp2_with fail
  refine (alive_any _).mono ?_
  rintro e w1 ⟨rfl, F1⟩
  go_wp2_with fail
  refine (twin_any _ _ _ ps _ (F1.out.rd R.out fun _ _ h => h) HN.out HR.out).mono ?_
  rintro e w2 ⟨g, cm, rfl, hcm, hcm9, PM⟩
  have RM := Mm.hid (mine_rd PM.out.1.row HN.out)
  go_wp2_with fail
  refine (up_row ps x _ _ _ _ RM.out HN.out HS.out HX.out HL.out).mono ?_
  rintro e w3 ⟨AL, m, cL, rfl, hm, O⟩
  have F2 := Mm.hid (F1.out.trans (Fr.of_below PM.out.1.fr) fun _ _ h => h)
  have F3 := Mm.hid (F2.out.trans (Fr.of_below O.out.2.2) fun _ _ h => h)
  have R3 := Mm.hid (F3.out.rd R.out fun _ _ h => h)
  have LL := Mm.hid O.out.1
  have LR : Hid (Rd w3 AL m 1 (strs (upL ps x))) := by
    obtain ⟨A', c', hv, _, _, hR⟩ := own_slice O.out.2.1
    injection hv with e1 e2 e3
    subst e1
    exact hR
  have hmN : m ≤ N + 1 := by
    have h1 := UL.out
    have h2 : ps.length = N := HN.out
    have h3 : (upL ps x).length = m := LL.out
    omega
  have h0 := upL_first ps x
  have hm0 : 0 < m := by
    have h3 : (upL ps x).length = m := LL.out
    rw [← h3]; exact (List.getElem?_eq_some_iff.1 h0).1
  obtain ⟨m, rfl⟩ : ∃ m', m = m' + 1 := ⟨m - 1, by omega⟩
  obtain ⟨ad, rfl, _, g0⟩ := LR.out.cell (strs_get h0)
  have g0' : w3.cell? ad = some (.string x) := by
    have e : ad.add 0 = ad := by unfold Addr.add; split <;> simp_all
    rwa [e] at g0
  have hs1 := str_same x
  have hz0 : (((m : Nat) : Int) + 1 == 0) = false := beq_eq_false_iff_ne.2 (by omega)
  clear O g0 h0 hm0
  go_wp2_with fail
  clear g0' hs1 hz0
  go_loopw [7] (fun iv wr => ∃ k : Nat, k ≤ N ∧ iv = .int .i64 (k : Nat) ∧ wr = w3) (fun iv _ => N - (intOf iv).toNat)
  case atStart => exact ⟨0, Nat.zero_le _, rfl, rfl⟩
  case round =>
    obtain ⟨k, hk, rfl, hwr⟩ := hrel
    rw [hwr]
    clear hwr
    by_cases hlt : k < N
    · obtain ⟨p, hp⟩ : ∃ p, ps[k]? = some p := ⟨_, List.getElem?_eq_getElem (by rw [HN.out]; exact hlt)⟩
      obtain ⟨ada, rfl, _, f0, f1⟩ := rd_pr R3.out HN.out hp
      by_cases hin : p.a ∈ upL ps x
      · have hin2 := upL_pair (List.mem_of_getElem? hp) hin
        have HC : Hid (∀ z, z = p.a ∨ z = p.b → Calls Try.prog 36 #[.slice (some ad) (m + 1) cL, .string z] w3 fun e w' => e = .returned (.bool true) ∧ w' = w3) := by
          intro z hz
          have h := hasl_any (some ad) (m + 1) cL (upL ps x) z w3 LR.out (by omega)
          rwa [isIn_true (by rcases hz with rfl | rfl <;> assumption)] at h
        clear hin hin2 hp
        go_wp2_with (go_at_call 36; refine (HC.out _ (by simp)).mono ?_; rintro e w' ⟨rfl, rfl⟩)
        go_roundw
        case rel => exact ⟨k + 1, by omega, by go_num, trivial⟩
        case measure => simp [intOf] <;> omega
      · have HC : Hid (Calls Try.prog 36 #[.slice (some ad) (m + 1) cL, .string p.a] w3 fun e w' => e = .returned (.bool false) ∧ w' = w3) := by
          have h := hasl_any (some ad) (m + 1) cL (upL ps x) p.a w3 LR.out (by omega)
          rwa [isIn_false hin] at h
        clear hin hp
        go_wp2_with (go_at_call 36; refine HC.out.mono ?_; rintro e w' ⟨rfl, rfl⟩)
        go_roundw
        case rel => exact ⟨k + 1, by omega, by go_num, trivial⟩
        case measure => simp [intOf] <;> omega
    · have hkn : N = k := by omega
      subst hkn
      go_wp2_with fail
      go_loopw [8] (fun iv wr => ∃ i : Nat, i ≤ m ∧ iv = .int .i64 ((i + 1 : Nat) : Int) ∧ Hid (Fr (fun _ => False) w3 wr)) (fun iv _ => m + 1 - (intOf iv).toNat)
      case atStart => exact ⟨0, Nat.zero_le _, rfl, Fr.refl _ _⟩
      case round =>
        obtain ⟨i, hi, rfl, HF⟩ := hrel
        by_cases hlt : i < m
        · obtain ⟨y, hy⟩ : ∃ y, (upL ps x)[i + 1]? = some y := ⟨_, List.getElem?_eq_getElem (by rw [LL.out]; omega)⟩
          have HY := Mm.hid hy
          clear hy
          go_wp2_with fail
          go_loopw [9, 10] (fun rv iv wr => ∃ (k : Nat) (b : Bool), k ≤ i + 1 ∧ rv = .bool b ∧ iv = .int .i64 (k : Nat) ∧ Hid (b = true ∨ ∀ j z, j < k → (upL ps x)[j]? = some z → y ∉ line ps z) ∧ Hid (Fr (fun _ => False) w3 wr)) (fun _ iv _ => i + 1 - (intOf iv).toNat)
          case atStart => exact ⟨0, false, Nat.zero_le _, rfl, rfl, .inr fun j z h => by omega, HF⟩
          case round =>
            obtain ⟨k, b, hk, rfl, rfl, HT, HI⟩ := hrel
            by_cases hlt2 : k < i + 1
            · obtain ⟨z, hz⟩ : ∃ z, (upL ps x)[k]? = some z := ⟨_, List.getElem?_eq_getElem (by rw [LL.out]; omega)⟩
              obtain ⟨ad1, e1, _, g1⟩ := (HI.out.rd LR.out fun _ _ h => h).cell (strs_get hz)
              injection e1 with e1
              subst e1
              obtain ⟨ad2, e2, _, g2⟩ := (HI.out.rd LR.out fun _ _ h => h).cell (strs_get HY.out)
              injection e2 with e2
              subst e2
              have g2' : ∀ n, (wr.drewN n).cell? ⟨ad.block, ad.off + (i + 1), none⟩ = some (.string y) := fun _ => g2
              have g1' : ∀ n, (wr.drewN n).cell? (ad.add k) = some (.string z) := fun _ => g1
              have hne : z ≠ y := by
                rintro rfl
                have := nodup_at (upL_nodup ps x) hz HY.out
                omega
              have hse := str_ne hne
              have LC : Hid (∀ d, Calls Try.prog 37 #[.slice A N c, .string z, .string y] (wr.drewN d) fun e w' => e = .returned (.bool (isIn (line ps z) y)) ∧ w' = wr.drewN d) := fun d =>
                line_any ps A N c z y (wr.drewN d) ((HI.out.trans (Fr.drewN (fun _ => False) _ _) fun _ _ h => h).rd R3.out fun _ _ h => h) HN.out (by omega)
              have hbi : (0 : Int) ≤ (k : Int) ∧ (k : Int) < (m : Int) + 1 := by omega
              have hbi1 : (0 : Int) ≤ (i : Int) + 1 ∧ (i : Int) + 1 < (m : Int) + 1 := by omega
              have HT2 : Hid ((b || isIn (line ps z) y) = true ∨ ∀ j u, j < k + 1 → (upL ps x)[j]? = some u → y ∉ line ps u) := by
                rcases HT.out with h | h
                · exact .inl (by rw [h]; rfl)
                · by_cases hy : y ∈ line ps z
                  · exact .inl (by rw [isIn_true hy, Bool.or_true])
                  · refine .inr fun j u hj hu => ?_
                    rcases Nat.lt_or_ge j k with h' | h'
                    · exact h j u h' hu
                    · obtain rfl : j = k := by omega
                      rw [hz] at hu
                      injection hu with hu
                      rw [← hu]
                      exact hy
              have NX : Hid (∀ n, Fr (fun _ => False) w3 (wr.drewN n)) := fun n => HI.out.trans (Fr.drewN (fun _ => False) wr n) fun _ _ h => h
              clear hz hne g1 g2
              cases b
              · rw [Bool.false_or] at HT2
                generalize isIn (line ps z) y = q at HT2 LC
                go_wp2_with fail
                go_quiet ((go_at_call 37; refine Calls.quiet_of_same (LC.out _)))
                go_wp2_with fail
                go_quiet (fail)
                go_wp2_with fail
                go_roundw
                case rel => exact ⟨k + 1, q, by omega, rfl, by go_num, HT2, NX.out _⟩
                case measure => simp [intOf] <;> omega
              · go_wp2_with fail
                go_quiet (fail)
                go_wp2_with fail
                go_quiet (fail)
                go_wp2_with fail
                refine ⟨?_, ?mea⟩
                · repeat apply Exists.intro
                  refine ⟨?rela, rfl⟩
                  case rela => exact ⟨k + 1, true, by omega, rfl, by go_num, .inl rfl, NX.out _⟩
                case mea => simp [intOf] <;> omega
            · have hki : k = i + 1 := by omega
              subst hki
              have hb : b = true := by
                rcases HT.out with h | h
                · exact h
                · obtain ⟨j, z, hj, hz, hr⟩ := upL_reason (Nat.succ_pos i) HY.out
                  exact absurd hr (h j z hj hz)
              subst hb
              go_wp2_with fail
              go_roundw
              case rel => exact ⟨i + 1, by omega, by go_num, HI⟩
              case measure => simp [intOf] <;> omega
        · have him : i = m := by omega
          subst him
          have FE := Mm.hid ((F3.out.trans HF.out fun _ _ h => h).below (B := w.heap.size) (fun _ h => h.elim) (Nat.le_refl _))
          go_wp2_with fail
          go_ret
          exact ⟨rfl, FE.out⟩
end Go.Proofs.Ythjldlgmfplngaa

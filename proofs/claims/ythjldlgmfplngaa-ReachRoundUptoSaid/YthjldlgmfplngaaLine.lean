/- Walks: line, way. -/
import Derived.Test.YthjldlgmfplngaaDep
namespace Go.Proofs.Ythjldlgmfplngaa
open Go.RowKit Go.Mm Go.Maps Go.Reach Go.WideMaps
set_option maxRecDepth 100000 in
set_option maxHeartbeats 1000000 in
theorem line_any (ps : List Pr) (A : Option Addr) (N c : Nat) (x y : ByteArray) (w : World) (hr : Rd w A N 2 (ps.flatMap fPr)) (hN : ps.length = N) (hb : N ≤ 4611686018427387904) :
    Calls Try.prog 37 #[.slice A N c, .string x, .string y] w fun e w' => e = .returned (.bool (isIn (line ps x) y)) ∧ w' = w := by
  have R := Mm.hid hr
  have HN := Mm.hid hN
  clear hr hN
  go_enter Try.func37, Try.ntmps37
  go_wp2_with fail
  go_loopw [7] (fun i wr => ∃ k : Nat, k ≤ N ∧ i = .int .i64 (k : Nat) ∧ Hid (y ∉ line (ps.take k) x) ∧ wr = w) (fun i _ => N - (intOf i).toNat)
  case atStart => exact ⟨0, Nat.zero_le _, rfl, by simp [Hid, line], rfl⟩
  case round =>
    obtain ⟨k, hk, rfl, HT, hwr⟩ := hrel
    rw [hwr]
    clear hwr
    by_cases hlt : k < N
    · obtain ⟨p, hp⟩ : ∃ p, ps[k]? = some p := ⟨_, List.getElem?_eq_getElem (by rw [HN.out]; exact hlt)⟩
      obtain ⟨ad, rfl, _, f0, f1⟩ := rd_pr R.out HN.out hp
      have HP := Mm.hid hp
      clear hp
      by_cases hx : p.a = x
      · by_cases hy : p.b = y
        · subst hx
          subst hy
          have hs1 := str_same p.a
          have hs2 := str_same p.b
          have fin : Hid (isIn (line ps p.a) p.b = true) := isIn_true (mem_line.2 ⟨p, List.mem_of_getElem? HP.out, rfl, rfl⟩)
          go_wp2_with fail
          go_ret
          rw [fin.out]
          exact ⟨rfl, rfl⟩
        · subst hx
          have hs1 := str_same p.a
          have hs2 := str_ne hy
          have T : Hid (y ∉ line (ps.take (k + 1)) p.a) := by
            show _
            rw [line_take HP.out, if_pos rfl]
            intro h
            rcases List.mem_append.1 h with h | h
            · exact HT.out h
            · exact hy (List.mem_singleton.1 h).symm
          clear hy HT
          go_wp2_with fail
          go_roundw
          case rel => exact ⟨k + 1, by omega, by go_num, T, trivial⟩
          case measure => simp [intOf] <;> omega
      · have hs1 := str_ne hx
        have T : Hid (y ∉ line (ps.take (k + 1)) x) := by
          show _
          rw [line_take HP.out, if_neg (fun e => hx e.symm)]
          exact HT.out
        clear hx HT
        go_wp2_with fail
        go_roundw
        case rel => exact ⟨k + 1, by omega, by go_num, T, trivial⟩
        case measure => simp [intOf] <;> omega
    · have hkn : k = N := by omega
      subst hkn
      have fin : Hid (isIn (line ps x) y = false) := by
        have h := HT.out
        rw [List.take_of_length_le (by rw [HN.out]; exact Nat.le_refl _)] at h
        exact isIn_false h
      go_wp2_with fail
      go_ret
      rw [fin.out]
      exact ⟨rfl, rfl⟩
set_option maxRecDepth 100000 in
set_option maxHeartbeats 2000000 in
theorem way_true (ps : List Pr) (A : Option Addr) (N c : Nat) (l : List ByteArray) (Al : Option Addr) (n cl : Nat) (x y : ByteArray) (w : World) (hr : Rd w A N 2 (ps.flatMap fPr)) (hN : ps.length = N) (hb : N ≤ 4611686018427387904)
    (hl : Rd w Al n 1 (strs l)) (hn : l.length = n) (hn9 : n ≤ 4611686018427387904) (h0 : l[0]? = some x) (h1 : l.getLast? = some y) (hst : ∀ (p : Nat) (a b : ByteArray), l[p]? = some a → l[p + 1]? = some b → b ∈ line ps a) :
    Calls Try.prog 38 #[.slice A N c, .slice Al n cl, .string x, .string y] w fun e w' => e = .returned (.bool true) ∧ Hid (Fr (fun _ => False) w w') := by
  have R := Mm.hid hr
  have RL := Mm.hid hl
  have HN := Mm.hid hN
  have HL := Mm.hid hn
  have HS := Mm.hid hst
  have hn0 : 0 < n := by rw [← hn]; exact (List.getElem?_eq_some_iff.1 h0).1
  obtain ⟨m, rfl⟩ : ∃ m, n = m + 1 := ⟨n - 1, by omega⟩
  have h1' : l[m]? = some y := by rw [List.getLast?_eq_getElem?, hn] at h1; simpa using h1
  obtain ⟨ad, rfl, _, g0⟩ := RL.out.cell (strs_get h0)
  obtain ⟨ad2, e2, _, g1⟩ := RL.out.cell (strs_get h1')
  injection e2 with e2
  subst e2
  have hs1 := str_same x
  have hs2 := str_same y
  have em : (((m + 1 : Nat) : Int)) - 1 = (m : Int) := by omega
  have hw1 : IntKind.i64.wrap ((m : Nat) : Int) = (m : Int) := IntWalk.i64_in _ (by omega)
  have hz0 : (((m : Nat) : Int) + 1 == 0) = false := beq_eq_false_iff_ne.2 (by omega)
  have g0' : w.cell? ad = some (.string x) := by
    have e : ad.add 0 = ad := by unfold Addr.add; split <;> simp_all
    rwa [e] at g0
  clear hr hl hN hn hst h0 h1 h1' g0
  go_enter Try.func38, Try.ntmps38
  go_wp2_with fail
  clear g0' g1 hs1 hs2 em hw1 hz0
  go_loopw [9, 10] (fun iv _ wr => ∃ k : Nat, k ≤ m ∧ iv = .int .i64 ((k + 1 : Nat) : Int) ∧ Hid (Fr (fun _ => False) w wr)) (fun iv _ _ => m + 1 - (intOf iv).toNat)
  case atStart => exact ⟨0, Nat.zero_le _, rfl, Fr.refl _ _⟩
  case round =>
    obtain ⟨k, hk, rfl, HF⟩ := hrel
    by_cases hlt : k < m
    · obtain ⟨a, ha⟩ : ∃ a, l[k]? = some a := ⟨_, List.getElem?_eq_getElem (by rw [HL.out]; omega)⟩
      obtain ⟨b, hb'⟩ : ∃ b, l[k + 1]? = some b := ⟨_, List.getElem?_eq_getElem (by rw [HL.out]; omega)⟩
      have RW := Mm.hid (HF.out.rd RL.out fun _ _ h => h)
      obtain ⟨ad1, e1, _, g1⟩ := RW.out.cell (strs_get ha)
      injection e1 with e1
      subst e1
      obtain ⟨ad2, e2, _, g2⟩ := RW.out.cell (strs_get hb')
      injection e2 with e2
      subst e2
      have g2' : wr.cell? ⟨ad.block, ad.off + (k + 1), none⟩ = some (.string b) := g2
      have IN : Hid (isIn (line ps a) b = true) := isIn_true (HS.out k a b ha hb')
      have em : (((k + 1 : Nat) : Int)) - 1 = (k : Int) := by omega
      have hw1 : IntKind.i64.wrap ((k : Nat) : Int) = (k : Int) := IntWalk.i64_in _ (by omega)
      have LC : Hid (∀ d, Calls Try.prog 37 #[.slice A N c, .string a, .string b] (wr.drewN d) fun e w' => e = .returned (.bool true) ∧ w' = wr.drewN d) := fun d => by
        have h := line_any ps A N c a b (wr.drewN d) ((HF.out.trans (Fr.drewN (fun _ => False) _ _) fun _ _ h => h).rd R.out fun _ _ h => h) HN.out hb
        rwa [IN.out] at h
      clear ha hb'
      go_wp2_with fail
      have hbi : (0 : Int) ≤ (k : Int) ∧ (k : Int) < (m : Int) + 1 := by omega
      have hbi1 : (0 : Int) ≤ (k : Int) + 1 ∧ (k : Int) + 1 < (m : Int) + 1 := by omega
      have hw2 : IntKind.i64.wrap ((k : Int) + 1) = (k : Int) + 1 := IntWalk.i64_in _ (by omega)
      go_quiet ((go_at_call 37; refine Calls.quiet_of_same (LC.out _)))
      have NX : Hid (Fr (fun _ => False) w (wr.drewN nq)) := HF.out.trans (Fr.drewN (fun _ => False) _ _) fun _ _ h => h
      go_wp2_with fail
      go_roundw
      case rel => exact ⟨k + 1, by omega, by go_num, NX⟩
      case measure => simp [intOf] <;> omega
    · have hkm : k = m := by omega
      subst hkm
      go_wp2_with fail
      go_ret
      exact ⟨rfl, HF⟩
end Go.Proofs.Ythjldlgmfplngaa

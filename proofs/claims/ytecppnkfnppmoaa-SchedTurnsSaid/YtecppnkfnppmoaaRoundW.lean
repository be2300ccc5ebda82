/- Walks: picks in turn. -/
import Derived.Test.YtecppnkfnppmoaaApart
import Derived.Test.YtecppnkfnppmoaaRows2
namespace Go.Proofs.Ytecppnkfnppmoaa
open Go.RowKit Go.Mm
def rndL (a n : Nat) : List Int := (List.range n).map fun i => ((i % a : Nat) : Int)
theorem rndL_len (a n : Nat) : (rndL a n).length = n := by simp [rndL]
theorem rndL_succ (a n : Nat) : rndL a (n + 1) = rndL a n ++ [((n % a : Nat) : Int)] := by simp [rndL, List.range_succ]
def rnd (a n : Int) : List Int := if 1 ≤ a ∧ a ≤ 64 ∧ 1 ≤ n ∧ n ≤ 1048576 then rndL a.toNat n.toNat else []
theorem rnd_len (a n : Int) : (rnd a n).length ≤ 1048576 := by
  unfold rnd; split
  · rw [rndL_len]; omega
  · simp
/-- a list told, in memory of its own -/
def RowEnds (w : World) (xs : List Int) (e : Ending) (w' : World) : Prop := ∃ A m c, e = .returned (.slice A m c) ∧ m ≤ c ∧ Hid (xs.length = m ∧ w'.ownsRow w.heap.size 3 1 (.slice A m c) m (iL xs) ∧ Below w.heap.size w w')
theorem RowEnds.mk {w w' : World} {v : Value} {n : Nat} {xs : List Int} (hl : xs.length = n) (h : w'.ownsRow w.heap.size 3 1 v n (iL xs)) (hb : Below w.heap.size w w') : RowEnds w xs (.returned v) w' := by
  obtain ⟨A, c, rfl, hc, _, _⟩ := own_slice h
  exact ⟨A, n, c, rfl, hc, hl, h, hb⟩
theorem RowEnds.nil (w : World) : RowEnds w [] (.returned (.slice none 0 0)) w := .mk (n := 0) rfl ⟨by simp [iL], .inl ⟨rfl, rfl⟩⟩ (Below.refl _ _)
set_option maxHeartbeats 2000000 in
theorem ref_round_good (a n : Nat) (w : World) (h1 : 1 ≤ a) (h2 : a ≤ 64) (h3 : 1 ≤ n) (h4 : n ≤ 1048576) :
    Calls Try.prog 13 #[.int .i64 (a : Int), .int .i64 (n : Int)] w (RowEnds w (rndL a n)) := by
  go_enter Try.func13, Try.ntmps13
  go_wp2_with fail
  go_loopw [5, 6] (fun v i wr => ∃ (k r : Nat), k ≤ n ∧ r < a ∧ i = .int .i64 (r : Nat) ∧ Hid (r = k % a ∧ wr.ownsRow w.heap.size 3 1 v k (iL (rndL a k)) ∧ Below w.heap.size w wr)) (fun v _ _ => n - (match v with | .slice _ m _ => m | _ => 0))
  case atStart => exact ⟨0, 0, Nat.zero_le _, h1, rfl, (Nat.zero_mod a).symm, ⟨by simp [rndL, iL], .inl ⟨rfl, rfl⟩⟩, Below.refl _ _⟩
  case round =>
    obtain ⟨k, r, hk, hr, rfl, HK⟩ := hrel
    obtain ⟨A, c, hv, hc, _, _⟩ := own_slice HK.out.2.1
    subst hv
    have hsz := HK.out.2.2.size
    by_cases hlt : k < n
    · have hone : ∀ u ∈ (#[Value.int .i64 (r : Int)] : Array Value).toList, u.oneCell' = true := by simp; rfl
      have HO := Mm.hid hone
      clear hone
      by_cases hra : r + 1 = a
      · have hb : ((r : Int) + 1 == (a : Int)) = true := by rw [beq_iff_eq]; omega
        have HM : Hid (0 = (k + 1) % a) := by
          have := HK.out.1
          subst hra
          show _ = _
          rw [Nat.add_mod, ← this]
          by_cases h1 : r = 0
          · subst h1; simp
          · rw [Nat.mod_eq_of_lt (show 1 < r + 1 by omega), Nat.mod_self]
        have HA := Mm.hid hra
        clear hra
        go_wp2_with (at_builtin; go_must (refine wp_ape1 w.heap.size rfl _ _ 22 3 (.int .i64 0) 1 8 #[.int .i64 (r : Int)] rfl Try.underlying22 info3 rfl (by decide) (by decide) (.slice A k c) k _ rfl rfl rfl HO.out (by exact HK.out.2.1) HK.out.2.2 hsz (by omega) ?_))
        intro v1 w1 k1 k2 k3 k4
        have K1 : Hid (w1.ownsRow w.heap.size 3 1 v1 (k + 1) (iL (rndL a (k + 1)))) := by
          rw [rndL_succ, ← HK.out.1, ← iL_snoc]; exact k1
        have K2 := Mm.hid k2
        clear k1 k2 k3 k4
        obtain ⟨A1, c1, hv, _⟩ := own_slice K1.out
        subst hv
        go_wp2
        go_roundw
        case rel => exact ⟨k + 1, 0, by omega, by omega, rfl, HM.out, K1.out, K2.out⟩
        case measure => simp <;> omega
      · have hb : ((r : Int) + 1 == (a : Int)) = false := by rw [beq_eq_false_iff_ne]; omega
        have HM : Hid (r + 1 = (k + 1) % a) := by
          have := HK.out.1
          show _ = _
          rw [Nat.add_mod, ← this, Nat.mod_eq_of_lt (show 1 < a by omega), Nat.mod_eq_of_lt (show r + 1 < a by omega)]
        go_wp2_with (at_builtin; go_must (refine wp_ape1 w.heap.size rfl _ _ 22 3 (.int .i64 0) 1 8 #[.int .i64 (r : Int)] rfl Try.underlying22 info3 rfl (by decide) (by decide) (.slice A k c) k _ rfl rfl rfl HO.out (by exact HK.out.2.1) HK.out.2.2 hsz (by omega) ?_))
        intro v1 w1 k1 k2 k3 k4
        have K1 : Hid (w1.ownsRow w.heap.size 3 1 v1 (k + 1) (iL (rndL a (k + 1)))) := by
          rw [rndL_succ, ← HK.out.1, ← iL_snoc]; exact k1
        have K2 := Mm.hid k2
        clear k1 k2 k3 k4
        obtain ⟨A1, c1, hv, _⟩ := own_slice K1.out
        subst hv
        go_wp2
        go_roundw
        case rel => exact ⟨k + 1, r + 1, by omega, by omega, by go_num, HM.out, K1.out, K2.out⟩
        case measure => simp <;> omega
    · have hkn : k = n := by omega
      subst hkn
      go_wp2
      go_ret
      exact .mk (rndL_len _ _) HK.out.2.1 HK.out.2.2
theorem rnd_bad {a n : Int} (h : ¬ (1 ≤ a ∧ a ≤ 64 ∧ 1 ≤ n ∧ n ≤ 1048576)) : rnd a n = [] := if_neg h
theorem ref_round_any (a n : Int) (w : World) : Calls Try.prog 13 #[.int .i64 a, .int .i64 n] w (RowEnds w (rnd a n)) := by
  by_cases h : 1 ≤ a ∧ a ≤ 64 ∧ 1 ≤ n ∧ n ≤ 1048576
  · obtain ⟨h1, h2, h3, h4⟩ := h
    obtain ⟨a, rfl⟩ := Int.eq_ofNat_of_zero_le (show 0 ≤ a by omega)
    obtain ⟨n, rfl⟩ := Int.eq_ofNat_of_zero_le (show 0 ≤ n by omega)
    rw [show rnd (a : Int) (n : Int) = rndL a n from if_pos ⟨h1, h2, h3, h4⟩]
    exact ref_round_good a n w (by omega) (by omega) (by omega) (by omega)
  · rw [rnd_bad h]
    have H := Mm.hid h
    clear h
    by_cases h1 : a < 1
    · go_enter Try.func13, Try.ntmps13
      go_wp2
      go_ret
      exact RowEnds.nil w
    by_cases h2 : 64 < a
    · go_enter Try.func13, Try.ntmps13
      go_wp2
      go_ret
      exact RowEnds.nil w
    by_cases h3 : n < 1
    · go_enter Try.func13, Try.ntmps13
      go_wp2
      go_ret
      exact RowEnds.nil w
    by_cases h4 : 1048576 < n
    · go_enter Try.func13, Try.ntmps13
      go_wp2
      go_ret
      exact RowEnds.nil w
    · exact absurd ⟨by omega, by omega, by omega, by omega⟩ H.out
theorem rep_set {l : List Int} {k n : Nat} (x : Int) (hl : l.length = k) (hk : k < n) : (l ++ List.replicate (n - k) 0).set k x = (l ++ [x]) ++ List.replicate (n - (k + 1)) 0 := by
  rw [List.set_append_right _ _ (by omega), hl, Nat.sub_self, show n - k = n - (k + 1) + 1 by omega, List.replicate_succ, List.set_cons_zero, List.append_assoc]
  rfl
theorem own_made {W : World} {base e n : Nat} {xs : List Value} (hb : base ≤ W.heap.size) (hl : xs.length = n) (hn : n ≤ maxLen) : (W.alloc (.cells xs.toArray e)).ownsRow base e 1 (.slice (some ⟨W.heap.size, 0, none⟩) n n) n xs :=
  ⟨by rw [hl, Nat.mul_one], .inr ⟨_, _, _, rfl, hb, heap_alloc_new W _, Nat.le_refl _, hn, by simp [hl], by rw [Nat.mul_one]; exact List.take_of_length_le (by rw [hl]; exact Nat.le_refl _)⟩⟩
set_option maxHeartbeats 2000000 in
theorem sched_round_good (a n : Nat) (w : World) (h1 : 1 ≤ a) (h2 : a ≤ 64) (h3 : 1 ≤ n) (h4 : n ≤ 1048576) :
    Calls Try.prog 14 #[.int .i64 (a : Int), .int .i64 (n : Int)] w (RowEnds w (rndL a n)) := by
  have hmk := run_make_flat (P := Try.prog) (fun x : Int => [Value.int .i64 x]) 0 Try.underlying22 info3 rfl (by decide) rfl n (by omega) (by omega) w
  rw [iL_flat] at hmk
  have ha0 : ((a : Int) == 0) = false := by rw [beq_eq_false_iff_ne]; omega
  have O0 : Hid ((w.alloc (.cells (iL (List.replicate n 0)).toArray 3)).ownsRow w.heap.size 3 1 (.slice (some ⟨w.heap.size, 0, none⟩) n n) n (iL (rndL a 0 ++ List.replicate (n - 0) 0)) ∧ Below w.heap.size w (w.alloc (.cells (iL (List.replicate n 0)).toArray 3))) := by
    refine ⟨?_, (Below.refl _ _).alloc (Nat.le_refl _) _⟩
    have e : rndL a 0 ++ List.replicate (n - 0) 0 = List.replicate n 0 := by simp [rndL]
    rw [e]
    exact own_made (Nat.le_refl _) (by rw [iL_len]; simp) (by simp only [maxLen]; omega)
  generalize hcs : (iL (List.replicate n 0)).toArray = cs at *
  clear hcs
  go_enter Try.func14, Try.ntmps14
  go_wp2_with fail
  go_loopw [25] (fun i wr => ∃ (k : Nat), k ≤ n ∧ i = .int .i64 (k : Nat) ∧ Hid (wr.ownsRow w.heap.size 3 1 (.slice (some ⟨w.heap.size, 0, none⟩) n n) n (iL (rndL a k ++ List.replicate (n - k) 0)) ∧ Below w.heap.size w wr)) (fun i _ => n - (intOf i).toNat)
  case atStart => exact ⟨0, Nat.zero_le _, rfl, O0.out⟩
  case round =>
    obtain ⟨k, hk, rfl, HK⟩ := hrel
    clear O0 hmk
    by_cases hlt : k < n
    · obtain ⟨g, cap, hv, _, hg1, hg2, hcell, hfree⟩ := own_blk HK.out.1 (by omega)
      injection hv with e1 _ _
      injection e1 with e1
      injection e1 with e1
      subst e1
      obtain ⟨u, hu⟩ : ∃ u, (iL (rndL a k ++ List.replicate (n - k) 0))[k]? = some u := ⟨_, List.getElem?_eq_getElem (by rw [iL_len]; simp [rndL_len]; omega)⟩
      have f2 := hcell k u hu
      have f3 := hfree k
      have FN : Hid ((wr.setCell ⟨w.heap.size, k, none⟩ (.int .i64 ((k : Int) % (a : Int)))).ownsRow w.heap.size 3 1 (.slice (some ⟨w.heap.size, 0, none⟩) n n) n (iL (rndL a (k + 1) ++ List.replicate (n - (k + 1)) 0)) ∧ Below w.heap.size w (wr.setCell ⟨w.heap.size, k, none⟩ (.int .i64 ((k : Int) % (a : Int))))) := by
        refine ⟨?_, HK.out.2.setCell (Nat.le_refl _) _⟩
        have := own_set HK.out.1 k (.int .i64 ((k : Int) % (a : Int)))
        rw [iL_set, rep_set _ (rndL_len a k) hlt] at this
        rw [rndL_succ]
        exact this
      clear hcell hfree hu
      go_wp2
      go_roundw
      case rel => exact ⟨k + 1, by omega, by go_num, FN.out⟩
      case measure => simp [intOf] <;> omega
    · have hkn : k = n := by omega
      subst hkn
      go_wp2
      go_ret
      have := HK.out.1
      rw [Nat.sub_self, List.replicate_zero, List.append_nil] at this
      exact .mk (rndL_len _ _) this HK.out.2
theorem sched_round_any (a n : Int) (w : World) : Calls Try.prog 14 #[.int .i64 a, .int .i64 n] w (RowEnds w (rnd a n)) := by
  by_cases h : 1 ≤ a ∧ a ≤ 64 ∧ 1 ≤ n ∧ n ≤ 1048576
  · obtain ⟨h1, h2, h3, h4⟩ := h
    obtain ⟨a, rfl⟩ := Int.eq_ofNat_of_zero_le (show 0 ≤ a by omega)
    obtain ⟨n, rfl⟩ := Int.eq_ofNat_of_zero_le (show 0 ≤ n by omega)
    rw [show rnd (a : Int) (n : Int) = rndL a n from if_pos ⟨h1, h2, h3, h4⟩]
    exact sched_round_good a n w (by omega) (by omega) (by omega) (by omega)
  · rw [rnd_bad h]
    have H := Mm.hid h
    clear h
    by_cases h1 : a < 1
    · go_enter Try.func14, Try.ntmps14
      go_wp2
      go_ret
      exact RowEnds.nil w
    by_cases h2 : 64 < a
    · go_enter Try.func14, Try.ntmps14
      go_wp2
      go_ret
      exact RowEnds.nil w
    by_cases h3 : n < 1
    · go_enter Try.func14, Try.ntmps14
      go_wp2
      go_ret
      exact RowEnds.nil w
    by_cases h4 : 1048576 < n
    · go_enter Try.func14, Try.ntmps14
      go_wp2
      go_ret
      exact RowEnds.nil w
    · exact absurd ⟨by omega, by omega, by omega, by omega⟩ H.out
end Go.Proofs.Ytecppnkfnppmoaa

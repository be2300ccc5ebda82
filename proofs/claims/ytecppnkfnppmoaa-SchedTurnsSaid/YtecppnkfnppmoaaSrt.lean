/- The first of the orders: a list of numbers, each so often. -/
import Derived.Test.YtecppnkfnppmoaaClone
namespace Go.Sched
def pos0 (x : Int) : Int := if 0 < x then x else 0
def sumP (l : List Int) : Int := l.foldl (fun s x => s + pos0 x) 0
theorem sumP_snoc (l : List Int) (x : Int) : sumP (l ++ [x]) = sumP l + pos0 x := by simp [sumP]
theorem pos0_nn (x : Int) : 0 ≤ pos0 x := by unfold pos0; split <;> omega
/-- they are not too many -/
def okS (l : List Int) : Prop := l.length ≤ 64 ∧ ∀ k x, l[k]? = some x → x ≤ 1048576 - sumP (l.take k)
/-- the numbers of the first k, each so often -/
def srtK (l : List Int) (k : Nat) : List Int := (List.range k).flatMap fun (i : Nat) => List.replicate ((l[i]?).getD 0).toNat (i : Int)
theorem srtK_succ (l : List Int) (k : Nat) : srtK l (k + 1) = srtK l k ++ List.replicate ((l[k]?).getD 0).toNat (k : Int) := by
  unfold srtK
  rw [List.range_succ, List.flatMap_append]
  simp
def srt (l : List Int) : List Int := srtK l l.length
theorem take_snoc {l : List Int} {k : Nat} {x : Int} (h : l[k]? = some x) : l.take (k + 1) = l.take k ++ [x] := by
  rw [List.take_add_one, h]; rfl
theorem sumP_nn {l : List Int} : ∀ k, 0 ≤ sumP (l.take k)
  | 0 => by simp [sumP]
  | k + 1 => by
    cases h : l[k]? with
    | none =>
      rw [List.take_of_length_le (by have := List.getElem?_eq_none_iff.1 h; omega)]
      have := sumP_nn (l := l) k
      rwa [List.take_of_length_le (List.getElem?_eq_none_iff.1 h)] at this
    | some x =>
      rw [take_snoc h, sumP_snoc]
      have := sumP_nn (l := l) k
      have := pos0_nn x
      omega
theorem srtK_len {l : List Int} : ∀ {k : Nat}, k ≤ l.length → ((srtK l k).length : Int) = sumP (l.take k)
  | 0, _ => by simp [srtK, sumP]
  | k + 1, hk => by
    have hx : l[k]? = some l[k] := List.getElem?_eq_getElem (by omega)
    have ih := srtK_len (l := l) (k := k) (by omega)
    rw [srtK_succ, List.length_append, List.length_replicate, take_snoc hx, sumP_snoc, hx]
    unfold pos0
    simp only [Option.getD_some]
    split <;> omega
theorem okS_le {l : List Int} (h : okS l) : ∀ {k : Nat}, k ≤ l.length → sumP (l.take k) ≤ 1048576
  | 0, _ => by simp [sumP]
  | k + 1, hk => by
    have hx : l[k]? = some l[k] := List.getElem?_eq_getElem (by omega)
    have ih := okS_le h (k := k) (by omega)
    have h2 := h.2 k _ hx
    rw [take_snoc hx, sumP_snoc]
    unfold pos0
    split <;> omega
theorem sumP_mono {l : List Int} {k j : Nat} (h : k ≤ j) : sumP (l.take k) ≤ sumP (l.take j) := by
  induction j with
  | zero => rw [Nat.le_zero.1 h]; exact Int.le_refl _
  | succ j ih =>
    rcases Nat.lt_or_ge k (j + 1) with hj | hj
    · refine Int.le_trans (ih (by omega)) ?_
      cases hx : l[j]? with
      | none =>
        have hn := List.getElem?_eq_none_iff.1 hx
        rw [List.take_of_length_le hn, List.take_of_length_le (by omega)]
        exact Int.le_refl _
      | some x =>
        rw [take_snoc hx, sumP_snoc]
        have := pos0_nn x
        omega
    · rw [show k = j + 1 by omega]; exact Int.le_refl _
end Go.Sched
namespace Go.Proofs.Ytecppnkfnppmoaa
open Go.RowKit Go.Mm Go.Sched
theorem int_one (x : Int) : ∀ u ∈ (#[.int .i64 x] : Array Value).toList, u.oneCell' = true := by intro u hu; simp at hu; subst hu; rfl
theorem run_make0 {w : World} (c : Nat) (hc : c ≤ 1048576) : ∃ w', (Instr.makeSlice 22 (.int .i64 0) (.int .i64 (c : Int))).run Try.prog w = .ok (.slice (some ⟨w.heap.size, 0, none⟩) 0 c) w' ∧
    w'.ownsRow w.heap.size 3 1 (.slice (some ⟨w.heap.size, 0, none⟩) 0 c) 0 [] ∧ w.grownBy w' none := by
  obtain ⟨i, h1, hzz⟩ := Option.map_eq_some_iff.1 info3
  simp only [Prod.mk.injEq] at hzz
  obtain ⟨h2, h3, h4⟩ := hzz
  exact run_make_own w w.heap.size 22 3 i _ 1 Try.underlying22 h1 h2 h3 .i64 .i64 c (by rw [h4]; omega) (by simp only [maxLen]; omega) (Nat.le_refl _)
/-- the list, and whether they are not too many -/
def SrtE (l : List Int) (w : World) (e : Ending) (w' : World) : Prop := ∃ A m c, e = .returned (.tuple #[.slice A m c, .bool true]) ∧ m ≤ c ∧ Hid ((srt l).length = m ∧ w'.ownsRow w.heap.size 3 1 (.slice A m c) m (iL (srt l)) ∧ Below w.heap.size w w')
set_option maxRecDepth 100000 in
set_option maxHeartbeats 2000000 in
theorem sorted_ok (A : Option Addr) (n c : Nat) (l : List Int) (w : World) (h : Rd w A n 1 (iL l)) (hl : l.length = n) (hk : okS l) :
    Calls Try.prog 49 #[.slice A n c] w (SrtE l w) := by
  have R := Mm.hid h
  have L := Mm.hid hl
  have OK := Mm.hid hk
  have hn64 : n ≤ 64 := hl ▸ hk.1
  clear h hl hk
  go_enter Try.func49, Try.ntmps49
  go_wp2_with fail
  go_loopw [4, 15] (fun sv iv wr => ∃ k : Nat, k ≤ n ∧ iv = .int .i64 (k : Nat) ∧ sv = .int .i64 (sumP (l.take k)) ∧ wr = w) (fun _ iv _ => n - (intOf iv).toNat)
  case atStart => exact ⟨0, Nat.zero_le _, rfl, rfl, rfl⟩
  case round =>
    obtain ⟨k, hk, rfl, rfl, hwr⟩ := hrel
    rw [hwr]
    clear hwr
    have hs0 := sumP_nn (l := l) k
    have hs1 := okS_le OK.out (k := k) (by rw [L.out]; exact hk)
    by_cases hlt : k < n
    · obtain ⟨x, hx⟩ : ∃ x, l[k]? = some x := ⟨_, List.getElem?_eq_getElem (by rw [L.out]; exact hlt)⟩
      obtain ⟨ad, rfl, _, f1⟩ := R.out.cell (iL_get hx)
      have hx1 := OK.out.2 k x hx
      have ES : Hid (sumP (l.take (k + 1)) = sumP (l.take k) + pos0 x) := by show _ = _; rw [take_snoc hx, sumP_snoc]
      generalize sumP (l.take k) = s at hs0 hs1 hx1 ES
      have hw1 : IntKind.i64.wrap (1048576 - s) = 1048576 - s := IntWalk.i64_in _ (by omega)
      have hle : ¬ 1048576 - s < x := by omega
      clear hx
      by_cases hp : 0 < x
      · have hw2 : IntKind.i64.wrap (s + x) = s + x := IntWalk.i64_in _ (by omega)
        have hpx : Hid (sumP (l.take (k + 1)) = s + x) := by show _ = _; rw [ES.out]; unfold pos0; rw [if_pos hp]
        clear ES
        go_wp2_with fail
        go_roundw
        case rel => exact ⟨k + 1, by omega, by go_num, by rw [hpx.out], trivial⟩
        case measure => simp [intOf] <;> omega
      · have hw2 : IntKind.i64.wrap s = s := IntWalk.i64_in _ (by omega)
        have hpx : Hid (sumP (l.take (k + 1)) = s) := by show _ = _; rw [ES.out]; unfold pos0; rw [if_neg hp]; omega
        clear ES
        go_wp2_with fail
        go_roundw
        case rel => exact ⟨k + 1, by omega, by go_num, by rw [hpx.out]; congr 1; split <;> omega, trivial⟩
        case measure => simp [intOf] <;> omega
    · have hkn : n = k := by omega
      subst hkn
      have hsl : Hid (sumP (l.take n) = ((srt l).length : Int)) := by
        show _ = _
        unfold srt
        rw [L.out, srtK_len (by rw [L.out]; exact Nat.le_refl _)]
      obtain ⟨q, hq⟩ : ∃ q : Nat, (srt l).length = q := ⟨_, rfl⟩
      rw [hsl.out, hq] at hs1
      rw [hsl.out, hq]
      obtain ⟨w1, hmk, hown, hgr⟩ := run_make0 (w := w) q (by omega)
      have Q := Mm.hid hq
      have R1 := Mm.hid ((Fr.grown hgr).rd R.out fun _ _ h => by cases h)
      have ST : Hid (w1.ownsRow w.heap.size 3 1 (.slice (some ⟨w.heap.size, 0, none⟩) 0 q) 0 (iL (srtK l 0)) ∧ Below w.heap.size w w1) := ⟨hown, (Below.refl _ _).grown hgr (Nat.le_refl _) fun _ h => by cases h⟩
      clear hs0 hq hown hgr hlt
      go_wp2_with fail
      clear hmk
      go_loopw [7, 32] (fun v iv wr => ∃ (k m c1 : Nat) (A1 : Option Addr), k ≤ n ∧ iv = .int .i64 (k : Nat) ∧ v = .slice A1 m c1 ∧ m ≤ c1 ∧ (srtK l k).length = m ∧ Hid (wr.ownsRow w.heap.size 3 1 (.slice A1 m c1) m (iL (srtK l k)) ∧ Below w.heap.size w wr)) (fun _ iv _ => n - (intOf iv).toNat)
      case atStart => exact ⟨0, 0, q, _, Nat.zero_le _, rfl, rfl, Nat.zero_le _, rfl, ST⟩
      case round =>
        obtain ⟨k, m, c1, A1, hk, rfl, rfl, hc1, hm, HK⟩ := hrel
        clear ST
        by_cases hlt : k < n
        · obtain ⟨x, hx⟩ : ∃ x, l[k]? = some x := ⟨_, List.getElem?_eq_getElem (by rw [L.out]; exact hlt)⟩
          obtain ⟨ad, rfl, _, f1⟩ := (R.out.below HK.out.2).cell (iL_get hx)
          have HSU : Hid (srtK l (k + 1) = srtK l k ++ List.replicate x.toNat (k : Int)) := by show _ = _; rw [srtK_succ, hx]; rfl
          have hbd : (srtK l (k + 1)).length ≤ 1048576 := by
            have h1 := srtK_len (l := l) (k := k + 1) (by rw [L.out]; omega)
            have h2 := okS_le OK.out (k := k + 1) (by rw [L.out]; omega)
            omega
          rw [HSU.out, List.length_append, List.length_replicate, hm] at hbd
          have HBD := Mm.hid hbd
          have hx0 : (x.toNat : Int) ≤ 1048576 := by omega
          have ST : Hid (wr.ownsRow w.heap.size 3 1 (.slice A1 m c1) (m + 0) (iL (srtK l k ++ List.replicate 0 (k : Int))) ∧ Below w.heap.size w wr) := by
            have h := HK.out
            show _ ∧ _
            rw [List.replicate_zero, List.append_nil]
            exact h
          clear hx HK hbd hm
          go_wp2_with fail
          go_loopw [7, 38] (fun v jv wr => ∃ (j c1 : Nat) (A1 : Option Addr), j ≤ x.toNat ∧ jv = .int .i64 (j : Nat) ∧ v = .slice A1 (m + j) c1 ∧ m + j ≤ c1 ∧ Hid (wr.ownsRow w.heap.size 3 1 (.slice A1 (m + j) c1) (m + j) (iL (srtK l k ++ List.replicate j (k : Int))) ∧ Below w.heap.size w wr)) (fun _ jv _ => x.toNat - (intOf jv).toNat)
          case atStart => exact ⟨0, c1, A1, Nat.zero_le _, rfl, rfl, hc1, ST⟩
          case round =>
            clear ST
            obtain ⟨j, c2, A2, hj, rfl, rfl, hc2, HJ⟩ := hrel
            by_cases hlt2 : j < x.toNat
            · have hltI : (j : Int) < x := by omega
              have HO := Mm.hid (int_one (k : Int))
              have hsz := HJ.out.2.size
              have HLj : Hid ((m + j + 1) * 8 ≤ 140737488355328) := by show _ ≤ _; have := HBD.out; omega
              go_wp2_with (at_builtin; go_must (refine wp_ape1 w.heap.size rfl _ _ 22 3 (.int .i64 0) 1 8 #[.int .i64 (k : Int)] rfl Try.underlying22 info3 rfl (by decide) (by decide) (.slice A2 (m + j) c2) (m + j) _ rfl rfl rfl HO.out (by exact HJ.out.1) HJ.out.2 hsz HLj.out ?_; intro v1 w2 k1 k2 k3 k4; obtain ⟨A3, c3, hv, hc3, _, _⟩ := own_slice k1; subst hv; have NX : Hid (w2.ownsRow w.heap.size 3 1 (.slice A3 (m + (j + 1)) c3) (m + (j + 1)) (iL (srtK l k ++ List.replicate (j + 1) (k : Int))) ∧ Below w.heap.size w w2) := ⟨(by rw [List.replicate_succ', ← List.append_assoc, ← iL_snoc, ← Nat.add_assoc]; exact k1), k2⟩; clear k1 k2 k3 k4))
              rw [Nat.add_assoc] at hc3
              rw [Nat.add_assoc]
              go_roundw
              case rel => exact ⟨j + 1, c3, A3, by omega, by go_num, rfl, hc3, NX⟩
              case measure => simp [intOf] <;> omega
            · have hjx : j = x.toNat := by omega
              have hge : ¬ (j : Int) < x := by omega
              have NX : Hid ((srtK l (k + 1)).length = m + j ∧ wr.ownsRow w.heap.size 3 1 (.slice A2 (m + j) c2) (m + j) (iL (srtK l (k + 1))) ∧ Below w.heap.size w wr) := by
                have h := HJ.out
                show _ ∧ _ ∧ _
                rw [HSU.out, ← hjx]
                refine ⟨?_, h⟩
                have h1 := own_len h.1
                rwa [iL_len] at h1
              clear HJ hjx HSU
              go_wp2_with fail
              go_roundw
              case rel => exact ⟨k + 1, m + j, c2, A2, by omega, by go_num, rfl, hc2, NX.out.1, NX.out.2⟩
              case measure => simp [intOf] <;> omega
        · have hkn : n = k := by omega
          have hm2 : m = q := by rw [← hm, ← Q.out, ← hkn, ← L.out]; rfl
          subst hm2
          have fin : Hid ((srt l).length = m ∧ wr.ownsRow w.heap.size 3 1 (.slice A1 m c1) m (iL (srt l)) ∧ Below w.heap.size w wr) := by
            have h := HK.out
            rw [← hkn, ← L.out] at h
            exact ⟨Q.out, h⟩
          clear HK hm
          subst hkn
          go_wp2_with fail
          go_ret2
          exact ⟨A1, m, c1, rfl, hc1, fin⟩
end Go.Proofs.Ytecppnkfnppmoaa

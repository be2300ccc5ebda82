/- Walk: a list turned about from a place on. -/
import Derived.Test.YtecppnkfnppmoaaClone
import Derived.Deep.RegionHeld3
import Derived.Deep.RegionLaw
namespace Go.Sched
/-- two things change places -/
def sw (L : List Int) (i j : Nat) : List Int := (L.set i ((L[j]?).getD 0)).set j ((L[i]?).getD 0)
theorem sw_len (L : List Int) (i j : Nat) : (sw L i j).length = L.length := by simp [sw]
theorem sw_at {L : List Int} {i j q : Nat} (hi : i < L.length) (hj : j < L.length) (hq : q < L.length) : ((sw L i j)[q]?).getD 0 = if q = j then (L[i]?).getD 0 else if q = i then (L[j]?).getD 0 else (L[q]?).getD 0 := by
  unfold sw
  by_cases h1 : j = q
  · subst h1
    rw [List.getElem?_set_self (by simpa using hj), if_pos rfl]; rfl
  · rw [List.getElem?_set_ne h1, if_neg (fun e => h1 e.symm)]
    by_cases h2 : i = q
    · subst h2
      rw [List.getElem?_set_self hi, if_pos rfl]; rfl
    · rw [List.getElem?_set_ne h2, if_neg (fun e => h2 e.symm)]
theorem ext_getD {L M : List Int} (h : L.length = M.length) (hq : ∀ q, q < L.length → (L[q]?).getD 0 = (M[q]?).getD 0) : L = M := by
  refine List.ext_getElem h fun q h1 h2 => ?_
  have := hq q h1
  rw [List.getElem?_eq_getElem h1, List.getElem?_eq_getElem h2] at this
  exact this
/-- from p on, m of them, the outermost i of both sides have changed places -/
def rvf (L : List Int) (p m i q : Nat) : Int := if p ≤ q ∧ (q - p < i ∨ m ≤ q - p + i) then (L[p + (m - 1 - (q - p))]?).getD 0 else (L[q]?).getD 0
def rv (L : List Int) (p m i : Nat) : List Int := (List.range L.length).map (rvf L p m i)
theorem rv_len (L : List Int) (p m i : Nat) : (rv L p m i).length = L.length := by simp [rv]
theorem rv_at {L : List Int} {p m i q : Nat} (h : q < L.length) : ((rv L p m i)[q]?).getD 0 = rvf L p m i q := by simp [rv, h]
theorem rv_zero {L : List Int} {p m : Nat} (h : p + m = L.length) : rv L p m 0 = L := by
  refine ext_getD (rv_len _ _ _ _) fun q hq => ?_
  rw [rv_len] at hq
  rw [rv_at hq]
  unfold rvf
  rw [if_neg (by omega)]
theorem rv_step {L : List Int} {p m i : Nat} (h : p + m = L.length) (hi : i + 1 + i < m) : sw (rv L p m i) (p + i) (p + (m - 1 - i)) = rv L p m (i + 1) := by
  refine ext_getD (by rw [sw_len, rv_len, rv_len]) fun q hq => ?_
  rw [sw_len, rv_len] at hq
  rw [sw_at (by rw [rv_len]; omega) (by rw [rv_len]; omega) (by rw [rv_len]; exact hq), rv_at hq, rv_at (by omega), rv_at (by omega), rv_at hq]
  by_cases h1 : q = p + (m - 1 - i)
  · subst h1
    rw [if_pos rfl]
    unfold rvf
    rw [if_neg (by omega), if_pos (by omega)]
    congr 2
    omega
  · rw [if_neg h1]
    by_cases h2 : q = p + i
    · subst h2
      rw [if_pos rfl]
      unfold rvf
      rw [if_neg (by omega), if_pos (by omega)]
      congr 2
      omega
    · rw [if_neg h2]
      unfold rvf
      by_cases h3 : p ≤ q ∧ (q - p < i ∨ m ≤ q - p + i)
      · rw [if_pos h3, if_pos (by omega)]
      · rw [if_neg h3, if_neg (by omega)]
theorem rv_end {L : List Int} {p m i : Nat} (h : p + m = L.length) (hi : m ≤ i + 1 + i) : rv L p m i = L.take p ++ (L.drop p).reverse := by
  refine ext_getD (by rw [rv_len]; simp; omega) fun q hq => ?_
  rw [rv_len] at hq
  rw [rv_at hq]
  unfold rvf
  have hpl : (L.take p).length = p := by rw [List.length_take]; omega
  rcases Nat.lt_or_ge q p with h1 | h1
  · rw [if_neg (by omega), List.getElem?_append_left (by omega), List.getElem?_take_of_lt h1]
  · rw [List.getElem?_append_right (by omega), hpl, List.getElem?_reverse (by rw [List.length_drop]; omega), List.length_drop, List.getElem?_drop]
    by_cases h2 : q - p < i ∨ m ≤ q - p + i
    · rw [if_pos ⟨h1, h2⟩]
      congr 2
      omega
    · rw [if_neg (fun e => h2 e.2)]
      congr 2
      omega
end Go.Sched
namespace Go.Proofs.Ytecppnkfnppmoaa
open Go.RowKit Go.Mm Go.Sched
theorem add_at (b p i : Nat) : (⟨b, p, none⟩ : Addr).add i = ⟨b, p + i, none⟩ := by
  unfold Addr.add
  by_cases h : i = 0
  · subst h; simp
  · simp [h]
theorem sw_iL {L : List Int} {i j : Nat} {x y : Int} (hi : L[i]? = some x) (hj : L[j]? = some y) : ((iL L).set i (.int .i64 y)).set j (.int .i64 x) = iL (sw L i j) := by
  unfold sw
  rw [hi, hj, iL_set, iL_set]
  rfl
/-- a list that is turned about, in its own row -/
structure RvR (base b n c : Nat) (L : List Int) (w0 w : World) : Prop where
  row : w.ownsRow base 3 1 (.slice (some ⟨b, 0, none⟩) n c) n (iL L)
  fr : Fr (· = b) w0 w
theorem RvR.sw {base b n c i j : Nat} {L : List Int} {x y : Int} {w0 w : World} (h : RvR base b n c L w0 w) (hi : L[i]? = some x) (hj : L[j]? = some y) : RvR base b n c (Go.Sched.sw L i j) w0 ((w.setCell ⟨b, i, none⟩ (.int .i64 y)).setCell ⟨b, j, none⟩ (.int .i64 x)) := by
  refine ⟨?_, (h.fr.trans (Fr.setCell _ _ _) fun _ _ e => e).trans (Fr.setCell _ _ _) fun _ _ e => e⟩
  have := own_set (own_set h.row i (.int .i64 y)) j (.int .i64 x)
  rwa [sw_iL hi hj] at this
theorem RvR.cells {base b n c : Nat} {L : List Int} {w0 w : World} (h : RvR base b n c L w0 w) {i : Nat} {x : Int} (hi : L[i]? = some x) : w.cell? ⟨b, i, none⟩ = some (.int .i64 x) ∧ w.frozen? ⟨b, i, none⟩ = false := by
  have hn : 0 < n := by
    have h1 := own_len h.row
    rw [iL_len] at h1
    have := (List.getElem?_eq_some_iff.1 hi).1
    omega
  obtain ⟨g', cap', hv, _, _, _, hc, hf⟩ := own_blk h.row hn
  injection hv with e1 _ _
  injection e1 with e1
  injection e1 with e1
  subst e1
  exact ⟨hc _ _ (iL_get hi), hf i⟩
set_option maxRecDepth 100000 in
set_option maxHeartbeats 1000000 in
theorem rev_any (base b n c p m c' : Nat) (L : List Int) (w : World) (h : w.ownsRow base 3 1 (.slice (some ⟨b, 0, none⟩) n c) n (iL L)) (hp : p + m = n) (hn : n ≤ 4611686018427387904) :
    Calls Try.prog 56 #[.slice (some ⟨b, p, none⟩) m c'] w fun e w' => (∃ v, e = .returned v) ∧ Hid (RvR base b n c (L.take p ++ (L.drop p).reverse) w w') := by
  have ST : Hid (RvR base b n c (rv L p m 0) w w) := by
    have hl := own_len h
    rw [iL_len] at hl
    show RvR _ _ _ _ _ _ _
    rw [rv_zero (by omega)]
    exact ⟨h, Fr.refl _ _⟩
  have HL : Hid (p + m = L.length) := by
    have hl := own_len h
    rw [iL_len] at hl
    show _ = _
    omega
  clear h
  go_enter Try.func56, Try.ntmps56
  have hw0 : IntKind.i64.wrap ((m : Int) - 1) = (m : Int) - 1 := IntWalk.i64_in _ (by omega)
  go_wp2_with fail
  go_loopw [2, 3] (fun iv jv wr => ∃ i : Nat, i + i ≤ m + 1 ∧ iv = .int .i64 (i : Nat) ∧ jv = .int .i64 ((m : Int) - 1 - (i : Nat)) ∧ Hid (RvR base b n c (rv L p m i) w wr)) (fun iv _ _ => m - (intOf iv).toNat)
  case atStart => exact ⟨0, by omega, rfl, by simp, ST⟩
  case round =>
    obtain ⟨i, hi, rfl, rfl, HK⟩ := hrel
    clear ST
    by_cases hlt : i + 1 + i < m
    · obtain ⟨j, hj⟩ : ∃ j : Nat, m = i + 1 + j := ⟨m - 1 - i, by omega⟩
      have ej : (m : Int) - 1 - (i : Nat) = (j : Nat) := by omega
      rw [ej]
      obtain ⟨x, hx⟩ : ∃ x, (rv L p m i)[p + i]? = some x := ⟨_, List.getElem?_eq_getElem (by rw [rv_len]; have := HL.out; omega)⟩
      obtain ⟨y, hy⟩ : ∃ y, (rv L p m i)[p + j]? = some y := ⟨_, List.getElem?_eq_getElem (by rw [rv_len]; have := HL.out; omega)⟩
      obtain ⟨c0, f0⟩ := HK.out.cells hx
      obtain ⟨c1, f1⟩ := HK.out.cells hy
      have NX := Mm.hid (HK.out.sw hx hy)
      have hji : j = m - 1 - i := by omega
      rw [hji, rv_step HL.out hlt, ← hji] at NX
      have hlt2 : (i : Int) < (j : Int) := by omega
      have hbi : (0 : Int) ≤ (i : Int) ∧ (i : Int) < (m : Int) := by omega
      have hbj : (0 : Int) ≤ (j : Int) ∧ (j : Int) < (m : Int) := by omega
      have ej2 : (j : Int) - 1 = (m : Int) - 1 - ((i + 1 : Nat) : Int) := by omega
      have EJ := Mm.hid ej2
      have hwj : IntKind.i64.wrap ((j : Int) - 1) = (j : Int) - 1 := IntWalk.i64_in _ (by omega)
      have hi2 : i + 1 + (i + 1) ≤ m + 1 := by omega
      clear hx hy ej hji hj ej2 hw0
      go_wp2_with fail
      go_region_law (fail)
      all_goals (
        rw [EJ.out] at hwj
        clear c0 c1 f0 f1
        go_wp2_with fail
        rw [EJ.out]
        go_roundw
        case rel => exact ⟨i + 1, hi2, by go_num, rfl, ⟨NX.out.row, NX.out.fr.trans (Fr.drew _ _) fun _ _ h => h⟩⟩
        case measure => simp [intOf] <;> omega)
    · have fin : Hid (RvR base b n c (L.take p ++ (L.drop p).reverse) w wr) := by
        show RvR _ _ _ _ _ _ _
        rw [← rv_end (i := i) HL.out (by omega)]
        exact HK.out
      have hge : (m : Int) - 1 - (i : Nat) ≤ (i : Int) := by omega
      clear hlt hw0
      go_wp2_with fail
      go_end0
      exact ⟨⟨_, rfl⟩, fin⟩
end Go.Proofs.Ytecppnkfnppmoaa

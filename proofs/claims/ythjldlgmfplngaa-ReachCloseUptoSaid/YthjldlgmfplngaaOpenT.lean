/- Numbers, and a table of numbers, among the arguments, opened. -/
import Derived.Test.YthjldlgmfplngaaNxi
import Derived.Test.YthjldlgmfplngaaRows
namespace Go.Proofs.Ythjldlgmfplngaa
open Go.RowKit Go.Mm Go.Maps Go.Reach Go.WideMaps
def fI (x : Int) : List Value := [.int .i64 x]
theorem fI_flat (xs : List Int) : xs.flatMap fI = iL xs := iL_flat xs
section
variable {H : Type} {enc : TypeId × Value → H} {w : World} {b0 : Nat} {spare : Nat → Bool} {held : Bool} {v : Value} {d : DataW H} {ps : List MemPlace} {ts : List TypeId} {ds : List (DataW H)} {j : Nat}
theorem open_nums (hval : Value.okWide Try.prog w .any b0 22 v) (hd : DataW.Trod enc Try.prog w 0 spare held 22 v d ps)
    (hz : (DataW.weightsEach Try.prog ts ds).all (· ≤ reachBytes) = true) (hj : ts[j]? = some 22) (hj' : ds[j]? = some d) :
    ∃ A n c xs, v = .slice A n c ∧ Sl w 1 8 fI Okn A n c xs :=
  open_sl fI Okn Try.underlying22 (by kernel_rfl) (by decide) (by kernel_rfl) (fun _ _ _ h => by
    obtain ⟨m, rfl, _, hw⟩ := DataW.trod_int Try.underlying3 h
    exact ⟨m, rfl, hw⟩) hval hd hz hj hj'
theorem bulk_one (d : DataW H) : 1 ≤ Rows.uptoBulk d := by
  cases d with
  | lit l => cases l <;> simp [Rows.uptoBulk]
  | nil => simp [Rows.uptoBulk]
  | ptr d => simp [Rows.uptoBulk]
  | slice elems spare => simp [Rows.uptoBulk]
  | agg parts => simp [Rows.uptoBulk]
  | iface t d => simp [Rows.uptoBulk]
  | map entries => simp [Rows.uptoBulk]
  | held h => simp [Rows.uptoBulk]
theorem bulk_part {d : DataW H} {l : List (DataW H)} (h : d ∈ l) : Rows.uptoBulk d ≤ Rows.uptoBulkAll l := by
  induction l with
  | nil => cases h
  | cons x r ih =>
    simp only [Rows.uptoBulkAll]
    cases List.mem_cons.1 h with
    | inl e => subst e; omega
    | inr e => have := ih e; omega
theorem bulk_len (l : List (DataW H)) : l.length ≤ Rows.uptoBulkAll l := by
  induction l with
  | nil => simp [Rows.uptoBulkAll]
  | cons x r ih => have := bulk_one x; simp only [Rows.uptoBulkAll, List.length_cons]; omega
/-- a row -/
theorem open_row {n B : Nat} {x : DataW H × List MemPlace} (h : DataW.trod enc Try.prog w 0 spare held n 22 [v] = some x) (hb : Rows.uptoBulk x.1 ≤ B) :
    ∃ A' c', ∃ xs : List Int, v = .slice A' xs.length c' ∧ xs.length ≤ c' ∧ Rd w A' xs.length 1 (iL xs) ∧ (∀ y ∈ xs, Okn y) ∧ xs.length ≤ B := by
  have hlt := DataW.trod_lt n 22 _ _ h
  rcases Go.Deep.open_slice1 Try.underlying22 (by kernel_rfl) h with ⟨hcs, _⟩ | ⟨a, len, cap, m, k, V, D, Pl, hcs, _, hl, _, hm, rfl, hel⟩
  · simp at hcs
    subst hcs
    exact ⟨none, 0, [], rfl, Nat.le_refl _, Rd.nil _ _ _, (fun y hy => by simp at hy), Nat.zero_le _⟩
  · simp at hcs
    subst hcs
    have hlm : len ≤ m := by rw [hm]; split <;> omega
    have hint : ∀ i, i < len → ∃ y : Int, V i = .int .i64 y ∧ Okn y := fun i hi => by
      obtain ⟨_, h2⟩ := hel i (by omega)
      obtain ⟨y, e, _, hw⟩ := DataW.trod_int Try.underlying3 h2
      simp at e
      exact ⟨y, by first | exact e | exact e.symm, hw⟩
    let f : Nat → Int := fun i => match V i with
      | .int _ y => y
      | _ => 0
    have hf : ∀ i, i < len → V i = .int .i64 (f i) ∧ Okn (f i) := fun i hi => by
      obtain ⟨y, e, hy⟩ := hint i hi
      have : f i = y := by show (match V i with | .int _ y => y | _ => 0) = y; rw [e]
      rw [this]
      exact ⟨e, hy⟩
    have hxl : ((List.range len).map f).length = len := by simp
    have hbl : len ≤ B := by
      simp only [Rows.uptoBulk] at hb
      have := bulk_len ((List.range len).map D)
      simp only [List.length_map, List.length_range] at this
      omega
    refine ⟨some a, cap, (List.range len).map f, by rw [hxl], by rw [hxl]; exact hl, ⟨by rw [iL_len, Nat.mul_one], fun hp => ⟨a, rfl, ?_, fun j u hu => ?_⟩⟩, fun y hy => ?_, by rw [hxl]; exact hbl⟩
    · refine hlt (MemPlace.cell a.block a.off) (List.mem_append_left _ ?_)
      rw [hxl] at hp
      simp only [MemPlace.row, List.mem_map, List.mem_range]
      exact ⟨0, by omega, by simp⟩
    · have hj : j < len := by
        have := (List.getElem?_eq_some_iff.1 hu).1
        rwa [iL_len, hxl] at this
      rw [(hel j (by omega)).1, (hf j hj).1]
      simp [iL, hj] at hu
      rw [← hu]
    · obtain ⟨i, hi, rfl⟩ := List.mem_map.1 hy
      exact (hf i (List.mem_range.1 hi)).2
end
/-- a table among the arguments -/
structure TabO (w : World) (A : Option Addr) (n c : Nat) (vs : List Value) (tb : List (List Int)) : Prop where
  tab : TabR w A n vs tb
  len : n ≤ 1048576
  cap : n ≤ c
  row : ∀ xs ∈ tb, xs.length ≤ 1048576 ∧ ∀ x ∈ xs, Okn x
section
variable {H : Type} {enc : TypeId × Value → H} {w : World} {b0 : Nat} {spare : Nat → Bool} {held : Bool} {v : Value} {d : DataW H} {ps : List MemPlace}
theorem open_tab (hval : Value.okWide Try.prog w .any b0 23 v) (hd : DataW.Trod enc Try.prog w 0 spare held 23 v d ps) (hb : Rows.uptoBulk d ≤ 1048576) :
    ∃ A n c vs tb, v = .slice A n c ∧ TabO w A n c vs tb := by
  obtain ⟨A, len, cap, rfl⟩ := Go.WideShapes.okWide_slice Try.underlying23 hval
  obtain ⟨fuel, hf⟩ := hd
  have hlt := DataW.trod_lt fuel 23 _ _ hf
  rcases Go.Deep.open_slice1 Try.underlying23 (by kernel_rfl) hf with ⟨hcs, _⟩ | ⟨a, l, c, m, k, V, D, Pl, hcs, _, hl, _, hm, hx, hel⟩
  · simp [Value.cells] at hcs
    obtain ⟨rfl, rfl, rfl⟩ := hcs
    exact ⟨none, 0, 0, [], [], rfl, TabR.nil w, by omega, by omega, fun xs h => by simp at h⟩
  · simp [Value.cells] at hcs
    obtain ⟨rfl, rfl, rfl⟩ := hcs
    simp only [Prod.mk.injEq] at hx
    obtain ⟨rfl, rfl⟩ := hx
    have hlm : len ≤ m := by rw [hm]; split <;> omega
    simp only [Rows.uptoBulk] at hb
    have hrow : ∀ i, i < len → ∃ xs : List Int, ∃ A' c', V i = .slice A' xs.length c' ∧ xs.length ≤ c' ∧ Rd w A' xs.length 1 (iL xs) ∧ (∀ y ∈ xs, Okn y) ∧ xs.length ≤ 1048576 := fun i hi => by
      obtain ⟨_, h2⟩ := hel i (by omega)
      have hp := bulk_part (show D i ∈ (List.range len).map D from List.mem_map.2 ⟨i, List.mem_range.2 hi, rfl⟩)
      obtain ⟨A', c', xs, h⟩ := open_row h2 (B := 1048576) (by show Rows.uptoBulk (D i) ≤ _; omega)
      exact ⟨xs, A', c', h⟩
    let g : Nat → List Int := fun i => if h : i < len then Classical.choose (hrow i h) else []
    have hg : ∀ i, i < len → ∃ A' c', V i = .slice A' (g i).length c' ∧ (g i).length ≤ c' ∧ Rd w A' (g i).length 1 (iL (g i)) ∧ (∀ y ∈ g i, Okn y) ∧ (g i).length ≤ 1048576 := fun i hi => by
      have h := Classical.choose_spec (hrow i hi)
      have e : g i = Classical.choose (hrow i hi) := dif_pos hi
      rw [e]
      exact h
    have hbl := bulk_len ((List.range len).map D)
    simp only [List.length_map, List.length_range] at hbl
    refine ⟨some a, len, cap, (List.range len).map V, (List.range len).map g, rfl, ⟨⟨by simp, fun hp => ⟨a, rfl, ?_, fun j u hu => ?_⟩⟩, by simp, fun i v xs hv hxs => ?_⟩, by omega, hl, fun xs hxs => ?_⟩
    · refine hlt (MemPlace.cell a.block a.off) (List.mem_append_left _ ?_)
      simp only [MemPlace.row, List.mem_map, List.mem_range]
      exact ⟨0, by omega, by simp⟩
    · have hj : j < len := by
        have := (List.getElem?_eq_some_iff.1 hu).1
        simpa using this
      rw [(hel j (by omega)).1]
      simp [hj] at hu
      rw [← hu]
    · have hi : i < len := by
        have := (List.getElem?_eq_some_iff.1 hv).1
        simpa using this
      simp [hi] at hv hxs
      subst hv hxs
      obtain ⟨A', c', h1, h2, h3, _⟩ := hg i hi
      exact ⟨A', c', h1, h2, h3⟩
    · obtain ⟨i, hi, rfl⟩ := List.mem_map.1 hxs
      obtain ⟨A', c', _, _, _, h4, h5⟩ := hg i (List.mem_range.1 hi)
      exact ⟨h5, h4⟩
end
end Go.Proofs.Ythjldlgmfplngaa

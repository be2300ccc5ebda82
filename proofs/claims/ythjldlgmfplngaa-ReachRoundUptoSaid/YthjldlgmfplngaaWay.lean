/- Plain: ways: by whom each name was put there, and the way back to the first one. -/
import Derived.Test.YthjldlgmfplngaaBrd
namespace Go.Reach
variable {α : Type} [DecidableEq α]
/-- in whose turn a name was first led to: of those that had their turn -/
def why (f : α → List α) (x : α) (d : List α) (y : α) : Option α := if y = x then none else d.find? fun z => decide (y ∈ f z)
theorem why_self (f : α → List α) (x : α) (d : List α) : why f x d x = none := if_pos rfl
theorem why_nil (f : α → List α) (x y : α) : why f x [] y = none := by unfold why; split <;> rfl
/-- within a turn, so many names of it read -/
def whyAt (f : α → List α) (x : α) (d : List α) (z : α) (l : List α) (y : α) : Option α := if y = x then none else (d.find? fun z => decide (y ∈ f z)).or (if y ∈ l then some z else none)
theorem whyAt_nil (f : α → List α) (x : α) (d : List α) (z y : α) : whyAt f x d z [] y = why f x d y := by
  unfold whyAt why
  split
  · rfl
  · simp
theorem whyAt_end (f : α → List α) (x : α) (d : List α) (z y : α) : whyAt f x d z (f z) y = why f x (d ++ [z]) y := by
  unfold whyAt why
  split
  · rfl
  · rw [List.find?_append]
    congr 1
    simp [List.find?_cons]
    split <;> simp_all
theorem whyAt_old {f : α → List α} {x : α} {d : List α} {z : α} {l : List α} {b : α} (h : b = x ∨ (whyAt f x d z l b).isSome = true) (y : α) : whyAt f x d z (l ++ [b]) y = whyAt f x d z l y := by
  unfold whyAt at h ⊢
  by_cases hy : y = x
  · rw [if_pos hy, if_pos hy]
  · rw [if_neg hy, if_neg hy]
    by_cases hb : y = b
    · subst hb
      rw [if_neg hy] at h
      rcases h with h | h
      · exact absurd h hy
      · cases hd : d.find? (fun z => decide (y ∈ f z)) with
        | some q => simp
        | none =>
          rw [hd] at h
          by_cases hl : y ∈ l
          · simp [hl]
          · simp [hl] at h
    · simp [hb]
theorem whyAt_new {f : α → List α} {x : α} {d : List α} {z : α} {l : List α} {b : α} (hb : b ≠ x) (h : whyAt f x d z l b = none) (y : α) : whyAt f x d z (l ++ [b]) y = if y = b then some z else whyAt f x d z l y := by
  unfold whyAt at h ⊢
  rw [if_neg hb] at h
  by_cases hy : y = b
  · subst hy
    rw [if_neg hb, if_pos rfl]
    rw [Option.or_eq_none_iff] at h
    rw [h.1]
    simp
  · rw [if_neg hy]
    by_cases hx : y = x
    · rw [if_pos hx, if_pos hx]
    · rw [if_neg hx, if_neg hx]
      simp [hy]
/-- the reasons by number -/
theorem rs_zero (f : α → List α) (l0 : List α) (k : Nat) : (rs f l0 k)[0]? = some (-1) := by
  induction k with
  | zero => rfl
  | succ k ih =>
    rw [rs, List.getElem?_append_left (List.getElem?_eq_some_iff.1 ih).1]
    exact ih
theorem rs_at {f : α → List α} {l0 : List α} (h1 : l0.length = 1) {k i : Nat} (h0 : 0 < i) (hi : i < (cl f l0 k).length) : ∃ j : Nat, j < k ∧ (rs f l0 k)[i]? = some (j : Int) ∧ (cl f l0 j).length ≤ i ∧ i < (cl f l0 (j + 1)).length := by
  induction k with
  | zero => simp [cl, h1] at hi; omega
  | succ k ih =>
    have hl := rs_len (f := f) h1 k
    rcases Nat.lt_or_ge i (cl f l0 k).length with h | h
    · obtain ⟨j, hj, e, r⟩ := ih h
      refine ⟨j, by omega, ?_, r⟩
      rw [rs, List.getElem?_append_left (by omega)]
      exact e
    · refine ⟨k, by omega, ?_, h, hi⟩
      rw [rs, List.getElem?_append_right (by omega), List.getElem?_replicate, if_pos (by omega)]
theorem mem_puts_new {l ys : List α} {y : α} (h : y ∈ puts l ys) (hn : y ∉ l) : y ∈ ys := (mem_puts.1 h).resolve_left hn
/-- what leads from each name but the first to one that stands ahead of it -/
structure Rooted (r : α → Option α) (x : α) (L : List α) (R : List Int) : Prop where
  fst : L[0]? = some x
  nd : L.Nodup
  root : R[0]? = some (-1)
  len : R.length = L.length
  up : ∀ i y, 0 < i → L[i]? = some y → ∃ j z, j < i ∧ R[i]? = some ((j : Nat) : Int) ∧ L[j]? = some z ∧ r y = some z
  out : ∀ y, y ∉ L → r y = none
omit [DecidableEq α] in
theorem nodup_at {L : List α} (h : L.Nodup) {i j : Nat} {x : α} (hi : L[i]? = some x) (hj : L[j]? = some x) : i = j := by
  obtain ⟨a, ea⟩ := List.getElem?_eq_some_iff.1 hi
  obtain ⟨b, eb⟩ := List.getElem?_eq_some_iff.1 hj
  have q := List.pairwise_iff_getElem.1 h
  rcases Nat.lt_trichotomy i j with hij | hij | hij
  · exact absurd (ea.trans eb.symm) (q i j a b hij)
  · exact hij
  · exact absurd (eb.trans ea.symm) (q j i b a hij)
omit [DecidableEq α] in
theorem find_first {L : List α} {p : α → Bool} {j : Nat} {z : α} (hz : L[j]? = some z) (hp : p z = true) (hn : ∀ i y, i < j → L[i]? = some y → p y = false) : L.find? p = some z := by
  induction L generalizing j with
  | nil => simp at hz
  | cons a L ih =>
    cases j with
    | zero =>
      simp at hz; subst hz
      simp [hp]
    | succ j =>
      have ha := hn 0 a (by omega) rfl
      rw [List.find?_cons, ha]
      exact ih (j := j) (by simpa using hz) fun i y hi hy => hn (i + 1) y (by omega) (by simpa using hy)
theorem rooted_of {f : α → List α} {x : α} {k : Nat} (hk : (cl f [x] k).length ≤ k) : Rooted (why f x (cl f [x] k)) x (cl f [x] k) (rs f [x] k) := by
  have hnd : (cl f [x] k).Nodup := cl_nodup (by simp) k
  have h0 : (cl f [x] k)[0]? = some x := by
    obtain ⟨t, ht⟩ := cl_mono (f := f) (l0 := [x]) (Nat.zero_le k)
    rw [← ht]; rfl
  refine ⟨h0, hnd, rs_zero _ _ _, rs_len rfl k, fun i y hi hy => ?_, fun y hy => ?_⟩
  · obtain ⟨j, hj, e, a, b⟩ := rs_at (f := f) (l0 := [x]) rfl hi (List.getElem?_eq_some_iff.1 hy).1
    have hjl : j < (cl f [x] j).length := by
      rcases Nat.lt_or_ge j (cl f [x] j).length with h | h
      · exact h
      · rw [cl_stop h] at b; omega
    obtain ⟨z, hz⟩ : ∃ z, (cl f [x] j)[j]? = some z := ⟨_, List.getElem?_eq_getElem hjl⟩
    have pre : ∀ {n m : Nat} {u : α}, (cl f [x] n)[m]? = some u → n ≤ k → (cl f [x] k)[m]? = some u := fun {n m u} h hn => by
      obtain ⟨t, ht⟩ := cl_mono (f := f) (l0 := [x]) hn
      rw [← ht, List.getElem?_append_left (List.getElem?_eq_some_iff.1 h).1]
      exact h
    have hzk := pre hz (by omega)
    have hy1 : (cl f [x] (j + 1))[i]? = some y := by
      obtain ⟨u, hu⟩ : ∃ u, (cl f [x] (j + 1))[i]? = some u := ⟨_, List.getElem?_eq_getElem b⟩
      rw [hu, ← hy, pre hu (by omega)]
    have hnot : ∀ n, n ≤ j → y ∉ cl f [x] n := fun n hn hm => by
      obtain ⟨m, hm'⟩ := List.getElem?_of_mem hm
      have h1 := pre hm' (by omega)
      have h2 := nodup_at hnd h1 hy
      have h3 := (List.getElem?_eq_some_iff.1 hm').1
      have h4 := (cl_mono (f := f) (l0 := [x]) hn).length_le
      omega
    have hin : y ∈ f z := by
      have := List.mem_of_getElem? hy1
      rw [cl_step hz] at this
      exact mem_puts_new this (hnot j (Nat.le_refl _))
    refine ⟨j, z, by omega, e, hzk, ?_⟩
    have hyx : y ≠ x := fun e => by
      have := nodup_at hnd (show (cl f [x] k)[i]? = some x by rw [hy, e]) h0
      omega
    unfold why
    rw [if_neg hyx]
    refine find_first hzk (by simp [hin]) fun n u hn hu => ?_
    have hun : (cl f [x] n)[n]? = some u := by
      have hnl : n < (cl f [x] n).length := by
        rcases Nat.lt_or_ge n (cl f [x] n).length with h | h
        · exact h
        · have := cl_done h (show n ≤ j by omega)
          rw [this] at hjl
          omega
      obtain ⟨v, hv⟩ : ∃ v, (cl f [x] n)[n]? = some v := ⟨_, List.getElem?_eq_getElem hnl⟩
      rw [hv, ← hu, pre hv (by omega)]
    simp only [decide_eq_false_iff_not]
    intro hyu
    refine hnot (n + 1) (by omega) ?_
    rw [cl_step hun]
    exact mem_puts.2 (.inr hyu)
  · have hW : Whole f [x] (cl f [x] k) := ⟨k, rfl, hk⟩
    unfold why
    split
    · rfl
    · rw [List.find?_eq_none]
      intro z hz hyz
      exact hy (hW.closed z hz y (by simpa using hyz))
/-- the way back, told from the first one on -/
def wayN (r : α → Option α) (x : α) : Nat → α → List α
  | 0, _ => []
  | n + 1, y => if y = x then [x] else match r y with
    | some z => wayN r x n z ++ [y]
    | none => []
section
variable {r : α → Option α} {x : α} {L : List α} {R : List Int}
theorem Rooted.fuel (h : Rooted r x L R) : ∀ (n i : Nat) (y : α), L[i]? = some y → i < n → wayN r x n y = wayN r x (i + 1) y
  | 0, i, y, _, hn => by omega
  | n + 1, i, y, hy, hn => by
    by_cases hx : y = x
    · simp [wayN, hx]
    · have hi : 0 < i := by
        rcases Nat.eq_zero_or_pos i with h0 | h0
        · subst h0; rw [h.fst] at hy; injection hy with hy; exact absurd hy.symm hx
        · exact h0
      obtain ⟨j, z, hj, _, hz, hr⟩ := h.up i y hi hy
      simp only [wayN, if_neg hx, hr]
      rw [h.fuel n j z hz (by omega), h.fuel i j z hz hj]
theorem Rooted.step (h : Rooted r x L R) {i j n : Nat} {y z : α} (hi : 0 < i) (hy : L[i]? = some y) (hj : L[j]? = some z) (hr : r y = some z) (hji : j < i) (hn : L.length ≤ n) : wayN r x n y = wayN r x n z ++ [y] := by
  have hil := (List.getElem?_eq_some_iff.1 hy).1
  have hx : y ≠ x := fun e => by
    have := nodup_at h.nd hy (e ▸ h.fst)
    omega
  rw [h.fuel n i y hy (by omega), h.fuel n j z hj (by omega)]
  simp only [wayN, if_neg hx, hr]
  rw [h.fuel i j z hj hji]
  rfl
theorem Rooted.first (h : Rooted r x L R) {n : Nat} (hn : L.length ≤ n) : wayN r x n x = [x] := by
  have := (List.getElem?_eq_some_iff.1 h.fst).1
  rw [h.fuel n 0 x h.fst (by omega)]
  simp [wayN]
theorem Rooted.none (h : Rooted r x L R) {n : Nat} {y : α} (hy : y ∉ L) : wayN r x n y = [] := by
  cases n with
  | zero => rfl
  | succ n =>
    have hx : y ≠ x := fun e => hy (e ▸ List.mem_of_getElem? h.fst)
    simp [wayN, hx, h.out y hy]
theorem Rooted.wlen (h : Rooted r x L R) : ∀ (i : Nat) (y : α), L[i]? = some y → (wayN r x (i + 1) y).length ≤ i + 1 := by
  intro i
  induction i using Nat.strongRecOn with
  | _ i ih =>
    intro y hy
    by_cases hx : y = x
    · simp [wayN, hx]
    · have hi : 0 < i := by
        rcases Nat.eq_zero_or_pos i with h0 | h0
        · subst h0; rw [h.fst] at hy; injection hy with hy; exact absurd hy.symm hx
        · exact h0
      obtain ⟨j, z, hj, _, hz, hr⟩ := h.up i y hi hy
      simp only [wayN, if_neg hx, hr]
      rw [h.fuel i j z hz hj, List.length_append]
      have := ih j hj z hz
      simp; omega
theorem Rooted.way_len (h : Rooted r x L R) {n : Nat} (hn : L.length ≤ n) (y : α) : (wayN r x n y).length ≤ L.length := by
  by_cases hy : y ∈ L
  · obtain ⟨i, hi⟩ := List.getElem?_of_mem hy
    have hil := (List.getElem?_eq_some_iff.1 hi).1
    rw [h.fuel n i y hi (by omega)]
    have := h.wlen i y hi
    omega
  · rw [h.none hy]; simp
theorem Rooted.back (h : Rooted r x L R) {y : α} (hy : y ∈ L) (hx : y ≠ x) : ∃ z, r y = some z ∧ z ∈ L ∧ wayN r x L.length y = wayN r x L.length z ++ [y] := by
  obtain ⟨i, hi⟩ := List.getElem?_of_mem hy
  have h0 : 0 < i := by
    rcases Nat.eq_zero_or_pos i with h0 | h0
    · subst h0; rw [h.fst] at hi; injection hi with hi; exact absurd hi.symm hx
    · exact h0
  obtain ⟨j, z, hj, _, hz, hr⟩ := h.up i y h0 hi
  exact ⟨z, hr, List.mem_of_getElem? hz, h.step h0 hi hz hr hj (Nat.le_refl _)⟩
end
end Go.Reach

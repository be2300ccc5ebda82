/- Plain: what is reached: lists that grow by what their things lead to, each once. -/
import Derived.Test.YthjldlgmfplngaaMo
namespace Go.Reach
variable {α : Type} [DecidableEq α]
/-- a list, and behind it what does not stand in it yet -/
def put1 (l : List α) (y : α) : List α := if y ∈ l then l else l ++ [y]
def puts (l ys : List α) : List α := ys.foldl put1 l
theorem puts_nil (l : List α) : puts l [] = l := rfl
theorem puts_cons (l : List α) (y : α) (ys : List α) : puts l (y :: ys) = puts (put1 l y) ys := rfl
theorem puts_snoc (l ys : List α) (y : α) : puts l (ys ++ [y]) = put1 (puts l ys) y := by simp [puts]
theorem puts_append (l ys zs : List α) : puts l (ys ++ zs) = puts (puts l ys) zs := by simp [puts]
theorem put1_prefix (l : List α) (y : α) : l <+: put1 l y := by
  unfold put1; split
  · exact List.prefix_refl _
  · exact List.prefix_append _ _
theorem puts_prefix (l ys : List α) : l <+: puts l ys := by
  induction ys generalizing l with
  | nil => exact List.prefix_refl _
  | cons y ys ih => exact (put1_prefix l y).trans (ih _)
theorem mem_put1 {l : List α} {x y : α} : x ∈ put1 l y ↔ x ∈ l ∨ x = y := by
  unfold put1; split
  · rename_i h
    exact ⟨.inl, fun h' => h'.elim id fun e => e ▸ h⟩
  · simp
theorem mem_puts {l ys : List α} {x : α} : x ∈ puts l ys ↔ x ∈ l ∨ x ∈ ys := by
  induction ys generalizing l with
  | nil => simp [puts]
  | cons y ys ih => rw [puts_cons, ih, mem_put1, List.mem_cons, or_assoc]
theorem nodup_put1 {l : List α} {y : α} (h : l.Nodup) : (put1 l y).Nodup := by
  unfold put1; split
  · exact h
  · rename_i hy
    rw [List.nodup_append]
    exact ⟨h, by simp, fun a ha b hb e => hy (by rw [List.mem_singleton.1 hb] at e; exact e ▸ ha)⟩
theorem nodup_puts {l ys : List α} (h : l.Nodup) : (puts l ys).Nodup := by
  induction ys generalizing l with
  | nil => exact h
  | cons y ys ih => exact ih (nodup_put1 h)
theorem puts_of_sub {l ys : List α} (h : ∀ y ∈ ys, y ∈ l) : puts l ys = l := by
  induction ys generalizing l with
  | nil => rfl
  | cons y ys ih =>
    have e : put1 l y = l := if_pos (h y List.mem_cons_self)
    rw [puts_cons, e]
    exact ih fun z hz => h z (List.mem_cons_of_mem _ hz)
/-- a thing at the names of a list, and nowhere else -/
def memO {γ : Type} (l : List α) (v : γ) (x : α) : Option γ := if x ∈ l then some v else none
theorem memO_in {γ : Type} {l : List α} {v : γ} {x : α} (h : x ∈ l) : memO l v x = some v := if_pos h
theorem memO_out {γ : Type} {l : List α} {v : γ} {x : α} (h : x ∉ l) : memO l v x = none := if_neg h
theorem memO_snoc {γ : Type} (l : List α) (v : γ) (y x : α) : memO (l ++ [y]) v x = if x = y then some v else memO l v x := by
  unfold memO
  by_cases e : x = y <;> simp [e]
theorem put1_in {l : List α} {y : α} (h : y ∈ l) : put1 l y = l := if_pos h
theorem put1_out {l : List α} {y : α} (h : y ∉ l) : put1 l y = l ++ [y] := if_neg h
theorem put1_len (l : List α) (y : α) : (put1 l y).length ≤ l.length + 1 := by unfold put1; split <;> simp
/-- no longer than what it lies within -/
theorem nodup_le {l U : List α} (h : l.Nodup) (hs : ∀ x ∈ l, x ∈ U) : l.length ≤ U.length := by
  induction l generalizing U with
  | nil => simp
  | cons a l ih =>
    have ha := hs a List.mem_cons_self
    have hn := List.nodup_cons.1 h
    have := ih (U := U.erase a) hn.2 fun x hx => (List.mem_erase_of_ne (by rintro rfl; exact hn.1 hx)).2 (hs x (List.mem_cons_of_mem _ hx))
    rw [List.length_erase_of_mem ha] at this
    have : 0 < U.length := List.length_pos_of_mem ha
    simp only [List.length_cons]; omega
/-- the list when so many have had their turn -/
def cl (f : α → List α) (l0 : List α) : Nat → List α
  | 0 => l0
  | k + 1 => match (cl f l0 k)[k]? with
    | some x => puts (cl f l0 k) (f x)
    | none => cl f l0 k
section
variable {f : α → List α} {l0 : List α}
theorem cl_step {k : Nat} {x : α} (h : (cl f l0 k)[k]? = some x) : cl f l0 (k + 1) = puts (cl f l0 k) (f x) := by
  show (match (cl f l0 k)[k]? with | some x => puts (cl f l0 k) (f x) | none => cl f l0 k) = _
  rw [h]
theorem cl_stop {k : Nat} (h : (cl f l0 k).length ≤ k) : cl f l0 (k + 1) = cl f l0 k := by
  show (match (cl f l0 k)[k]? with | some x => puts (cl f l0 k) (f x) | none => cl f l0 k) = _
  rw [List.getElem?_eq_none h]
theorem cl_succ (k : Nat) : cl f l0 k <+: cl f l0 (k + 1) := by
  by_cases h : k < (cl f l0 k).length
  · rw [cl_step (List.getElem?_eq_getElem h)]; exact puts_prefix _ _
  · rw [cl_stop (by omega)]; exact List.prefix_refl _
theorem cl_mono {j k : Nat} (h : j ≤ k) : cl f l0 j <+: cl f l0 k := by
  induction k with
  | zero => rw [Nat.le_zero.1 h]; exact List.prefix_refl _
  | succ k ih =>
    rcases Nat.lt_or_ge j (k + 1) with hj | hj
    · exact (ih (by omega)).trans (cl_succ k)
    · rw [show j = k + 1 by omega]; exact List.prefix_refl _
theorem cl_done {k j : Nat} (h : (cl f l0 k).length ≤ k) (hj : k ≤ j) : cl f l0 j = cl f l0 k := by
  induction j with
  | zero => rw [Nat.le_zero.1 hj]
  | succ j ih =>
    rcases Nat.lt_or_ge k (j + 1) with hk | hk
    · have e := ih (by omega)
      rw [cl_stop (by rw [e]; omega), e]
    · rw [show k = j + 1 by omega]
theorem cl_nodup (h : l0.Nodup) (k : Nat) : (cl f l0 k).Nodup := by
  induction k with
  | zero => exact h
  | succ k ih =>
    by_cases hk : k < (cl f l0 k).length
    · rw [cl_step (List.getElem?_eq_getElem hk)]; exact nodup_puts ih
    · rw [cl_stop (by omega)]; exact ih
theorem cl_in {U : List α} (h0 : ∀ x ∈ l0, x ∈ U) (hf : ∀ x ∈ U, ∀ y ∈ f x, y ∈ U) (k : Nat) : ∀ x ∈ cl f l0 k, x ∈ U := by
  induction k with
  | zero => exact h0
  | succ k ih =>
    by_cases hk : k < (cl f l0 k).length
    · rw [cl_step (List.getElem?_eq_getElem hk)]
      intro x hx
      rcases mem_puts.1 hx with hx | hx
      · exact ih x hx
      · exact hf _ (ih _ (List.getElem_mem hk)) x hx
    · rw [cl_stop (by omega)]; exact ih
theorem cl_len {U : List α} (hd : l0.Nodup) (h0 : ∀ x ∈ l0, x ∈ U) (hf : ∀ x ∈ U, ∀ y ∈ f x, y ∈ U) (k : Nat) : (cl f l0 k).length ≤ U.length :=
  nodup_le (cl_nodup hd k) (cl_in h0 hf k)
/-- the whole of it -/
def Whole (f : α → List α) (l0 L : List α) : Prop := ∃ k, L = cl f l0 k ∧ L.length ≤ k
theorem Whole.uniq {L L' : List α} (h : Whole f l0 L) (h' : Whole f l0 L') : L = L' := by
  obtain ⟨k, rfl, hk⟩ := h
  obtain ⟨j, rfl, hj⟩ := h'
  rcases Nat.le_total k j with h | h
  · exact (cl_done hk h).symm
  · exact cl_done hj h
theorem Whole.nodup {L : List α} (h : Whole f l0 L) (hd : l0.Nodup) : L.Nodup := by
  obtain ⟨k, rfl, _⟩ := h
  exact cl_nodup hd k
theorem Whole.len {U L : List α} (h : Whole f l0 L) (hd : l0.Nodup) (h0 : ∀ x ∈ l0, x ∈ U) (hf : ∀ x ∈ U, ∀ y ∈ f x, y ∈ U) : L.length ≤ U.length := by
  obtain ⟨k, rfl, _⟩ := h
  exact cl_len hd h0 hf k
theorem Whole.start {L : List α} (h : Whole f l0 L) : l0 <+: L := by
  obtain ⟨k, rfl, _⟩ := h
  exact cl_mono (Nat.zero_le k)
/-- what had its turn led to nothing beyond -/
theorem cl_had {k j : Nat} (hj : j < k) {x : α} (hx : (cl f l0 k)[j]? = some x) : ∀ y ∈ f x, y ∈ cl f l0 k := by
  induction k with
  | zero => omega
  | succ k ih =>
    have hp := cl_succ (f := f) (l0 := l0) k
    by_cases hk : k < (cl f l0 k).length
    · have hjk : (cl f l0 k)[j]? = some x := by
        have : j < (cl f l0 k).length := by omega
        rw [List.getElem?_eq_getElem this]
        have e := List.IsPrefix.getElem hp this
        rw [List.getElem?_eq_getElem (Nat.lt_of_lt_of_le this hp.length_le)] at hx
        rw [e]; exact hx
      rcases Nat.lt_or_ge j k with h | h
      · exact fun y hy => hp.subset (ih h hjk y hy)
      · obtain rfl : j = k := by omega
        rw [cl_step hjk]
        exact fun y hy => mem_puts.2 (.inr hy)
    · have e := cl_stop (f := f) (l0 := l0) (k := k) (by omega)
      rw [e] at hx ⊢
      have : j < (cl f l0 k).length := (List.getElem?_eq_some_iff.1 hx).1
      exact ih (by omega) hx
theorem Whole.closed {L : List α} (h : Whole f l0 L) : ∀ x ∈ L, ∀ y ∈ f x, y ∈ L := by
  obtain ⟨k, rfl, hk⟩ := h
  intro x hx y hy
  obtain ⟨j, hj⟩ := List.getElem?_of_mem hx
  have := (List.getElem?_eq_some_iff.1 hj).1
  exact cl_had (by omega) hj y hy
/-- it is there -/
theorem Whole.exists {U : List α} (hd : l0.Nodup) (h0 : ∀ x ∈ l0, x ∈ U) (hf : ∀ x ∈ U, ∀ y ∈ f x, y ∈ U) : Whole f l0 (cl f l0 U.length) :=
  ⟨_, rfl, cl_len hd h0 hf _⟩
end
end Go.Reach

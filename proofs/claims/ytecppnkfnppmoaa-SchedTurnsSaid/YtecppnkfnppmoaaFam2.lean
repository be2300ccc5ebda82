/- A family of rows that grows, one by one; and what it is held against. Free of the program. -/
import Derived.Test.YtecppnkfnppmoaaFam
namespace Go.Mm
open Go.RowKit
structure Fam (base e : Nat) (w : World) (gv : List Value) (ls : List (List Value)) : Prop where
  len : gv.length = ls.length
  own : ∀ (i : Nat) (v : Value) (xs : List Value), gv[i]? = some v → ls[i]? = some xs → w.ownsRow base e 1 v xs.length xs
  dis : Dis gv
  low : base ≤ w.heap.size
section
variable {base e : Nat} {w w1 : World} {gv : List Value} {ls : List (List Value)}
theorem Fam.nil (base e : Nat) (w : World) (h : base ≤ w.heap.size) : Fam base e w [] [] := ⟨rfl, fun i v xs h => by simp at h, fun i j u v b _ h => by simp at h, h⟩
theorem Fam.blk (h : Fam base e w gv ls) : ∀ u ∈ gv, ∀ b, u.ownBlock = some b → base ≤ b ∧ b < w.heap.size := by
  intro u hu b hb
  obtain ⟨i, hi⟩ := List.getElem?_of_mem hu
  have hlt := (List.getElem?_eq_some_iff.1 hi).1
  exact own_lt (h.own i u _ hi (List.getElem?_eq_getElem (by rw [← h.len]; exact hlt))) hb
theorem Fam.fr {T : Nat → Prop} (h : Fam base e w gv ls) (hf : Fr T w w1) (hT : ∀ u ∈ gv, ∀ b, u.ownBlock = some b → ¬ T b) : Fam base e w1 gv ls :=
  ⟨h.len, fun i v xs hv hx => hf.own (h.own i v xs hv hx) (hT v (List.mem_of_getElem? hv)), h.dis, Nat.le_trans h.low hf.size⟩
theorem Fam.below (h : Fam base e w gv ls) (hb : Below w.heap.size w w1) : Fam base e w1 gv ls := h.fr (Fr.of_below hb) fun _ _ _ _ h => h
theorem Fam.snoc (h : Fam base e w gv ls) (hb : Below w.heap.size w w1) {v : Value} {xs : List Value} (ho : w1.ownsRow w.heap.size e 1 v xs.length xs) : Fam base e w1 (gv ++ [v]) (ls ++ [xs]) := by
  have h' := h.below hb
  refine ⟨by simp [h.len], fun i u ys hu hy => ?_, fun i j u u' b hij hu hu' hb1 hb2 => ?_, h'.low⟩
  · by_cases hi : i < gv.length
    · rw [List.getElem?_append_left hi] at hu
      rw [List.getElem?_append_left (by rw [← h.len]; exact hi)] at hy
      exact h'.own i u ys hu hy
    · have hlt := (List.getElem?_eq_some_iff.1 hu).1
      simp only [List.length_append, List.length_cons, List.length_nil] at hlt
      obtain rfl : i = gv.length := by omega
      rw [List.getElem?_append_right (by omega), Nat.sub_self] at hu
      rw [List.getElem?_append_right (by rw [h.len]; exact Nat.le_refl _), h.len, Nat.sub_self] at hy
      simp only [List.getElem?_cons_zero, Option.some.injEq] at hu hy
      subst hu hy
      exact own_mono ho h.low
  · have key : ∀ (k : Nat) (z : Value), (gv ++ [v])[k]? = some z → (k < gv.length ∧ gv[k]? = some z) ∨ (k = gv.length ∧ z = v) := by
      intro k z hz
      by_cases hk : k < gv.length
      · rw [List.getElem?_append_left hk] at hz; exact .inl ⟨hk, hz⟩
      · have hlt := (List.getElem?_eq_some_iff.1 hz).1
        simp only [List.length_append, List.length_cons, List.length_nil] at hlt
        obtain rfl : k = gv.length := by omega
        rw [List.getElem?_append_right (by omega), Nat.sub_self] at hz
        simp only [List.getElem?_cons_zero, Option.some.injEq] at hz
        exact .inr ⟨rfl, hz.symm⟩
    rcases key i u hu with ⟨hi, q1⟩ | ⟨hi, q1⟩ <;> rcases key j u' hu' with ⟨hj, q2⟩ | ⟨hj, q2⟩
    · exact h.dis i j u u' b hij q1 q2 hb1 hb2
    · rw [q2] at hb2
      have h1 := (h.blk u (List.mem_of_getElem? q1) b hb1).2
      have h2 := (own_lt ho hb2).1
      omega
    · rw [q1] at hb1
      have h1 := (h.blk u' (List.mem_of_getElem? q2) b hb2).2
      have h2 := (own_lt ho hb1).1
      omega
    · omega
theorem Fam.off {t g : Nat} {cs : Array Value} (h : Fam base e w gv ls) (hb : Blk w g t cs) (ht : t ≠ e) : ¬ Sg gv g := by
  rintro ⟨u, hu, hg⟩
  obtain ⟨i, hi⟩ := List.getElem?_of_mem hu
  have hlt := (List.getElem?_eq_some_iff.1 hi).1
  exact own_ne (h.own i u _ hi (List.getElem?_eq_getElem (by rw [← h.len]; exact hlt))) hb ht hg
/-- a literal row -/
theorem Rd.lit (w : World) (cs : Array Value) (e m : Nat) (hm : cs.size = m) : Rd (w.alloc (.cells cs e)) (some ⟨w.heap.size, 0, none⟩) m 1 cs.toList := by
  refine ⟨by simp [hm], fun _ => ⟨_, rfl, by simp, fun j u hu => ?_⟩⟩
  rw [add_plain, cell_of_row (w.alloc (.cells cs e)) w.heap.size j cs e (0, 0) (heap_alloc_new w _)]
  simpa using hu
theorem ApIn.of {m : Nat} {Ag Aw : Option Addr} {wv : List Value} (F : Fam base e w gv ls) (hm : gv.length = m) (hw : wv.length = m) (rg : Rd w Ag m 1 gv) (rw' : Rd w Aw m 1 wv)
    (og : ∀ ad, Ag = some ad → ∃ t cs, t ≠ e ∧ Blk w ad.block t cs) (ow : ∀ ad, Aw = some ad → ∃ t cs, t ≠ e ∧ Blk w ad.block t cs)
    (hwant : ∀ (i : Nat) (v : Value) (xs : List Value), wv[i]? = some v → ls[i]? = some xs → ∃ A c, v = .slice A xs.length c ∧ xs.length ≤ c ∧ Rd w A xs.length 1 xs ∧ ∀ ad, A = some ad → ad.block < base) : ApIn base e m Ag Aw gv wv ls w :=
  ⟨hm, hw, by rw [← F.len, hm], rg, rw', F.own, fun i v xs hv hx => by
    obtain ⟨A, c, h1, h2, h3, h4⟩ := hwant i v xs hv hx
    exact ⟨A, c, h1, h2, h3, fun ad hA => fun ⟨u, hu, hb⟩ => by have := (F.blk u hu _ hb).1; have := h4 ad hA; omega⟩, F.dis,
    fun ad hA => by obtain ⟨t, cs, h1, h2⟩ := og ad hA; exact F.off h2 h1, fun ad hA => by obtain ⟨t, cs, h1, h2⟩ := ow ad hA; exact F.off h2 h1⟩
/-- what is wanted: a row of its own, made ahead of them -/
structure Want (base : Nat) (w : World) (v : Value) (xs : List Value) : Prop where
  out : ∃ A c, v = .slice A xs.length c ∧ xs.length ≤ c ∧ Rd w A xs.length 1 xs ∧ ∀ ad, A = some ad → ad.block < base
theorem Want.of_own {base' n : Nat} {v : Value} {xs : List Value} (h : w.ownsRow base' e 1 v n xs) (hn : xs.length = n) (hb : w.heap.size ≤ base) : Want base w v xs := by
  subst hn
  obtain ⟨A, c, h1, h2, h3, h4⟩ := own_slice h
  exact ⟨A, c, h1, h2, h4, fun ad hA => Nat.lt_of_lt_of_le (own_lt h (h3 ad hA)).2 hb⟩
theorem Want.fr {S : Nat → Prop} {v : Value} {xs : List Value} (h : Want base w v xs) (hf : Fr S w w1) (hS : ∀ g, g < base → ¬ S g) : Want base w1 v xs := by
  obtain ⟨A, c, h1, h2, h3, h4⟩ := h.out
  exact ⟨A, c, h1, h2, hf.rd h3 fun ad hA => hS _ (h4 ad hA), h4⟩
theorem Want.more {base' : Nat} {v : Value} {xs : List Value} (h : Want base w v xs) (hb : base ≤ base') : Want base' w v xs := by
  obtain ⟨A, c, h1, h2, h3, h4⟩ := h.out
  exact ⟨A, c, h1, h2, h3, fun ad hA => Nat.lt_of_lt_of_le (h4 ad hA) hb⟩
theorem Want.below {v : Value} {xs : List Value} (h : Want base w v xs) (hb : Below w.heap.size w w1) : Want base w1 v xs := h.fr (Fr.of_below hb) fun _ _ h => h
end
end Go.Mm

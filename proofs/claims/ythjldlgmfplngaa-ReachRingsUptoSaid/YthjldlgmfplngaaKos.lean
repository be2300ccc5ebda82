/- Plain: what leads to what; the order of a walk in depth; the parts are what leads to one another; the rings are groups of names. -/
import Derived.Test.YthjldlgmfplngaaParts
namespace Go.Reach
section
variable {α : Type}
/-- led to, in any number of steps -/
def Rc (r : α → α → Prop) (x y : α) : Prop := ∀ S : α → Prop, S x → (∀ u, S u → ∀ v, r u v → S v) → S y
variable {r r' : α → α → Prop} {x y z : α}
theorem Rc.refl (r : α → α → Prop) (x : α) : Rc r x x := fun _ h _ => h
theorem Rc.step (h : Rc r x y) (hz : r y z) : Rc r x z := fun S h0 hs => hs y (h S h0 hs) z hz
theorem Rc.one (h : r x y) : Rc r x y := (Rc.refl r x).step h
theorem Rc.trans (h : Rc r x y) (k : Rc r y z) : Rc r x z := k (Rc r x) h fun _ hu _ hv => hu.step hv
theorem Rc.ind {P : α → Prop} (h : Rc r x y) (h0 : P x) (hs : ∀ u v, Rc r x u → P u → r u v → P v) : P y :=
  (h (fun u => Rc r x u ∧ P u) ⟨Rc.refl r x, h0⟩ fun u hu v hv => ⟨hu.1.step hv, hs u v hu.1 hu.2 hv⟩).2
theorem Rc.turn (h : Rc r x y) : Rc (fun u v => r v u) y x := h.ind (P := fun z => Rc (fun u v => r v u) z x) (Rc.refl _ _) fun _ _ _ hu hv => (Rc.one (r := fun u v => r v u) hv).trans hu
theorem Rc.mono (h : Rc r x y) (hr : ∀ u v, r u v → r' u v) : Rc r' x y := h.ind (Rc.refl _ _) fun u v _ hu hv => hu.step (hr u v hv)
/-- the first step -/
theorem Rc.head (h : Rc r x y) : x = y ∨ ∃ z, r x z ∧ Rc r z y := h.ind (P := fun y => x = y ∨ ∃ z, r x z ∧ Rc r z y) (.inl rfl) fun u v _ hu hv => by
  rcases hu with rfl | ⟨z, h1, h2⟩
  · exact .inr ⟨v, hv, Rc.refl _ _⟩
  · exact .inr ⟨z, h1, h2.step hv⟩
/-- all along a way one is still on the way -/
theorem Rc.along (h : Rc r x y) : Rc (fun u v => r u v ∧ Rc r x u ∧ Rc r v y) x y := by
  have h1 : Rc (fun u v => r u v ∧ Rc r v y) x y := by
    have ht := h.turn
    have : Rc r x y ∧ Rc (fun u v => r u v ∧ Rc r v y) x y := ht.ind (P := fun z => Rc r z y ∧ Rc (fun u v => r u v ∧ Rc r v y) z y) ⟨Rc.refl _ _, Rc.refl _ _⟩ fun u v _ hu hv => ⟨(Rc.one hv).trans hu.1, (Rc.one (r := fun u v => r u v ∧ Rc r v y) ⟨hv, hu.1⟩).trans hu.2⟩
    exact this.2
  exact h1.ind (P := fun z => Rc (fun u v => r u v ∧ Rc r x u ∧ Rc r v y) x z) (Rc.refl _ _) fun u v hu hp hv => hp.step ⟨hv.1, hu.mono fun _ _ h => h.1, hv.2⟩
end
section
variable {α : Type} [DecidableEq α]
theorem cl_rc {f : α → List α} {x : α} : ∀ (k : Nat) (y : α), y ∈ cl f [x] k → Rc (fun u v => v ∈ f u) x y
  | 0, y, h => by rw [List.mem_singleton.1 h]; exact Rc.refl _ _
  | k + 1, y, h => by
    by_cases hk : k < (cl f [x] k).length
    · rw [cl_step (List.getElem?_eq_getElem hk)] at h
      rcases mem_puts.1 h with h | h
      · exact cl_rc k y h
      · exact (cl_rc k _ (List.getElem_mem hk)).step h
    · rw [cl_stop (by omega)] at h; exact cl_rc k y h
theorem mem_whole {f : α → List α} {x : α} {L : List α} (h : Whole f [x] L) {y : α} : y ∈ L ↔ Rc (fun u v => v ∈ f u) x y := by
  constructor
  · obtain ⟨k, rfl, _⟩ := h
    exact cl_rc k y
  · intro hr
    exact hr (· ∈ L) (h.start.subset (by simp)) fun u hu v hv => h.closed u hu v hv
end
/-- along lines of numbers -/
abbrev Rch (E : Nat → List Nat) : Nat → Nat → Prop := Rc fun u v => v ∈ E u
structure DInv (E : Nat → List Nat) (s : Dfs) : Prop where
  path : ∀ j x y, s.stack[j]? = some x → s.stack[j + 1]? = some y → y ∈ E x
  seen : ∀ x b, s.been[x]? = some b → 1 ≤ b → x ∈ s.order ∨ x ∈ s.stack
  exp : ∀ x b, s.been[x]? = some b → ∀ k y, k + 1 < b → (E x)[k]? = some y → y ∈ s.order ∨ y ∈ s.stack
  fin : ∀ x ∈ s.order, ∀ y ∈ E x, y ∈ s.order ∨ y ∈ s.stack
  gr : ∀ i u, s.order[i]? = some u → ∀ v, Rch E u v → v ∈ s.order.take (i + 1) ∨ ∃ w, w ∉ s.order.take (i + 1) ∧ Rch E u w ∧ Rch E w u
/-- what stands on the stack leads to its top -/
theorem stack_rch {E : Nat → List Nat} {l : List Nat} {x : Nat} (hp : ∀ j a b, (l ++ [x])[j]? = some a → (l ++ [x])[j + 1]? = some b → b ∈ E a) : ∀ (d j : Nat) (y : Nat), j + d = l.length → (l ++ [x])[j]? = some y → Rch E y x := by
  intro d
  induction d with
  | zero =>
    intro j y hj hy
    rw [List.getElem?_append_right (by omega), show j - l.length = 0 by omega] at hy
    simp at hy
    subst hy
    exact Rc.refl _ _
  | succ d ih =>
    intro j y hj hy
    obtain ⟨z, hz⟩ : ∃ z, (l ++ [x])[j + 1]? = some z := ⟨_, List.getElem?_eq_getElem (by simp; omega)⟩
    exact (Rc.one (r := fun u v => v ∈ E u) (hp j y z hy hz)).trans (ih (j + 1) z (by omega) hz)
theorem dstep_inv {E : Nat → List Nat} {n : Nat} {s : Dfs} (h : DOk E n s) (hE : ∀ x, ∀ y ∈ E x, y < n) (hi : DInv E s) (hs : s.stack ≠ []) :
    DInv E (dstep E s) ∧ ∀ y, (y ∈ s.order ∨ y ∈ s.stack) → (y ∈ (dstep E s).order ∨ y ∈ (dstep E s).stack) := by
  obtain ⟨x, b, hx, hxn, hb, hb1, hle, hc⟩ := dstep_spec h hE hs
  have hsp := last_split hx
  rcases hc with ⟨hlt, e⟩ | ⟨hble, y, c, hy, hyn, hc, ⟨h0, e⟩ | ⟨h0, e⟩⟩
  · rw [e]
    have mono : ∀ y, (y ∈ s.order ∨ y ∈ s.stack) → (y ∈ s.order ++ [x] ∨ y ∈ s.stack.dropLast) := by
      rintro y (hy | hy)
      · exact .inl (List.mem_append_left _ hy)
      · rw [hsp] at hy
        rcases List.mem_append.1 hy with hy | hy
        · exact .inr hy
        · exact .inl (List.mem_append_right _ hy)
    refine ⟨⟨fun j a c ha hc => ?_, fun z b hz h1 => mono z (hi.seen z b hz h1), fun z b hz k y hk hy => mono y (hi.exp z b hz k y hk hy), fun z hz y hy => ?_, fun i u hu v hv => ?_⟩, mono⟩
    · refine hi.path j a c ?_ ?_
      · rw [hsp, List.getElem?_append_left (List.getElem?_eq_some_iff.1 ha).1]; exact ha
      · rw [hsp, List.getElem?_append_left (List.getElem?_eq_some_iff.1 hc).1]; exact hc
    · refine mono y ?_
      rcases List.mem_append.1 hz with hz | hz
      · exact hi.fin z hz y hy
      · rw [List.mem_singleton.1 hz] at hy
        obtain ⟨k, hk⟩ := List.getElem?_of_mem hy
        have := (List.getElem?_eq_some_iff.1 hk).1
        exact hi.exp x b hb k y (by omega) hk
    · show v ∈ (s.order ++ [x]).take (i + 1) ∨ ∃ w, w ∉ (s.order ++ [x]).take (i + 1) ∧ _
      have hu' : (s.order ++ [x])[i]? = some u := hu
      rcases Nat.lt_or_ge i s.order.length with hil | hil
      · rw [List.take_append_of_le_length (by omega)]
        rw [List.getElem?_append_left hil] at hu'
        exact hi.gr i u hu' v hv
      · have hil2 := (List.getElem?_eq_some_iff.1 hu').1
        rw [List.length_append, List.length_singleton] at hil2
        obtain rfl : i = s.order.length := by omega
        rw [List.getElem?_append_right (Nat.le_refl _), Nat.sub_self] at hu'
        simp at hu'
        subst hu'
        rw [List.take_of_length_le (by simp)]
        by_cases hw : ∃ w, w ∉ s.order ++ [x] ∧ Rch E x w ∧ Rch E w x
        · exact .inr hw
        · left
          refine hv.ind (P := fun v => v ∈ s.order ++ [x]) (by simp) fun a c hxa ha hc => ?_
          have h2 : c ∈ s.order ++ [x] ∨ c ∈ s.stack.dropLast := by
            rcases List.mem_append.1 ha with ha | ha
            · exact mono c (hi.fin a ha c hc)
            · rw [List.mem_singleton.1 ha] at hc
              obtain ⟨k, hk⟩ := List.getElem?_of_mem hc
              have := (List.getElem?_eq_some_iff.1 hk).1
              exact mono c (hi.exp x b hb k c (by omega) hk)
          rcases h2 with h2 | h2
          · exact h2
          · exfalso
            obtain ⟨j, hj⟩ := List.getElem?_of_mem h2
            have hjl := (List.getElem?_eq_some_iff.1 hj).1
            refine hw ⟨c, fun hm => ?_, hxa.step hc, stack_rch (l := s.stack.dropLast) (fun j a b h1 h2 => hi.path j a b (by rw [hsp]; exact h1) (by rw [hsp]; exact h2)) (s.stack.dropLast.length - j) j c (by omega) (by rw [List.getElem?_append_left hjl]; exact hj)⟩
            have hnd := h.ond
            rw [hsp, List.nodup_append] at hnd
            rcases List.mem_append.1 hm with hm | hm
            · exact hnd.2.2 c hm c (List.mem_append_left _ h2) rfl
            · have h3 := hnd.2.1
              rw [List.nodup_append] at h3
              exact h3.2.2 c h2 c hm rfl
  · rw [e]
    have mono : ∀ z, (z ∈ s.order ∨ z ∈ s.stack) → (z ∈ s.order ∨ z ∈ s.stack ++ [y]) := fun z hz => hz.imp id (List.mem_append_left _)
    have hyL : y ∈ E x := List.mem_of_getElem? hy
    refine ⟨⟨fun j a d ha hd => ?_, fun z b' hz h1 => ?_, fun z b' hz k u hk hu => ?_, fun z hz u hu => mono u (hi.fin z hz u hu), hi.gr⟩, mono⟩
    · have hd' : (s.stack ++ [y])[j + 1]? = some d := hd
      have ha' : (s.stack ++ [y])[j]? = some a := ha
      rcases Nat.lt_or_ge (j + 1) s.stack.length with hj | hj
      · rw [List.getElem?_append_left (by omega)] at ha' hd'
        exact hi.path j a d ha' hd'
      · have hl := (List.getElem?_eq_some_iff.1 hd').1
        rw [List.length_append, List.length_singleton] at hl
        rw [List.getElem?_append_right hj, show j + 1 - s.stack.length = 0 by omega] at hd'
        simp at hd'
        subst hd'
        rw [List.getElem?_append_left (by omega)] at ha'
        rw [List.getLast?_eq_getElem?, show s.stack.length - 1 = j by omega, ha'] at hx
        injection hx with hx
        rw [hx]
        exact hyL
    · rcases set_at hz with ⟨h2, h3⟩ | ⟨h2, h3⟩
      · exact .inr (by rw [h2]; simp)
      · rcases set_at h3 with ⟨h4, h5⟩ | ⟨h4, h5⟩
        · exact mono z (.inr (by rw [h4]; exact last_mem hx))
        · exact mono z (hi.seen z b' h5 h1)
    · rcases set_at hz with ⟨h2, h3⟩ | ⟨h2, h3⟩
      · omega
      · rcases set_at h3 with ⟨h4, h5⟩ | ⟨h4, h5⟩
        · subst h4
          rcases Nat.lt_or_ge (k + 1) b with h6 | h6
          · exact mono u (hi.exp z b hb k u h6 hu)
          · rw [show k = b - 1 by omega, hy] at hu
            injection hu with hu
            exact .inr (by rw [← hu]; simp)
        · exact mono u (hi.exp z b' h5 k u hk hu)
  · rw [e]
    have hyS : y ∈ s.order ∨ y ∈ s.stack := by
      rcases set_at hc with ⟨h1, _⟩ | ⟨h1, h2⟩
      · exact .inr (by rw [h1]; exact last_mem hx)
      · exact hi.seen y c h2 (by omega)
    refine ⟨⟨hi.path, fun z b' hz h1 => ?_, fun z b' hz k u hk hu => ?_, hi.fin, hi.gr⟩, fun _ h => h⟩
    · rcases set_at hz with ⟨h4, h5⟩ | ⟨h4, h5⟩
      · exact .inr (by rw [h4]; exact last_mem hx)
      · exact hi.seen z b' h5 h1
    · rcases set_at hz with ⟨h4, h5⟩ | ⟨h4, h5⟩
      · subst h4
        rcases Nat.lt_or_ge (k + 1) b with h6 | h6
        · exact hi.exp z b hb k u h6 hu
        · rw [show k = b - 1 by omega, hy] at hu
          injection hu with hu
          rw [← hu]
          exact hyS
      · exact hi.exp z b' h5 k u hk hu
theorem drun_inv {E : Nat → List Nat} {n : Nat} (hE : ∀ x, ∀ y ∈ E x, y < n) : ∀ (k : Nat) (s : Dfs), DOk E n s → DInv E s → DInv E (drun E k s) ∧ ∀ y, (y ∈ s.order ∨ y ∈ s.stack) → (y ∈ (drun E k s).order ∨ y ∈ (drun E k s).stack)
  | 0, s, _, hi => ⟨hi, fun _ h => h⟩
  | k + 1, s, h, hi => by
    unfold drun
    by_cases hs : s.stack = []
    · rw [if_pos hs]; exact ⟨hi, fun _ h => h⟩
    · rw [if_neg hs]
      obtain ⟨h1, h2⟩ := dstep_inv h hE hi hs
      obtain ⟨h3, h4⟩ := drun_inv hE k _ (dstep_ok h hE hs).1 h1
      exact ⟨h3, fun y hy => h4 y (h2 y hy)⟩
theorem dnext_inv {E : Nat → List Nat} {n x : Nat} {s : Dfs} (hE : ∀ x, ∀ y ∈ E x, y < n) (h : DOk E n s) (hs : s.stack = []) (hx : x < n) (hi : DInv E s) :
    DInv E (dnext E s x) ∧ x ∈ (dnext E s x).order ∧ ∀ y ∈ s.order, y ∈ (dnext E s x).order := by
  obtain ⟨b, hb⟩ : ∃ b, s.been[x]? = some b := ⟨_, List.getElem?_eq_getElem (by rw [h.len]; exact hx)⟩
  have hnx := dnext_ok hE h hs hx
  unfold dnext at hnx ⊢
  by_cases h0 : (s.been[x]?).getD 0 = 0
  · rw [if_pos h0] at hnx ⊢
    rw [hb] at h0
    have : b = 0 := h0
    subst this
    have hi1 : DInv E { s with been := s.been.set x 1, stack := [x] } := by
      refine ⟨fun j a c ha hc => by simp at hc, fun z b' hz h1 => ?_, fun z b' hz k u hk hu => ?_, fun z hz u hu => ?_, hi.gr⟩
      · rcases set_at hz with ⟨h4, h5⟩ | ⟨h4, h5⟩
        · exact .inr (by rw [h4]; simp)
        · rcases hi.seen z b' h5 h1 with h | h
          · exact .inl h
          · rw [hs] at h; simp at h
      · rcases set_at hz with ⟨h4, h5⟩ | ⟨h4, h5⟩
        · omega
        · rcases hi.exp z b' h5 k u hk hu with h | h
          · exact .inl h
          · rw [hs] at h; simp at h
      · rcases hi.fin z hz u hu with h | h
        · exact .inl h
        · rw [hs] at h; simp at h
    obtain ⟨h1, h2⟩ := drun_inv hE (phi E { s with been := s.been.set x 1, stack := [x] }) _ (dstart_ok h hs hb) hi1
    have key : ∀ y, (y ∈ s.order ∨ y ∈ [x]) → y ∈ (dall E { s with been := s.been.set x 1, stack := [x] }).order := fun y hy => by
      rcases h2 y hy with h | h
      · exact h
      · have := hnx.2
        unfold dall at this
        rw [this] at h
        simp at h
    exact ⟨h1, key x (.inr (by simp)), fun y hy => key y (.inl hy)⟩
  · rw [if_neg h0]
    rw [hb] at h0
    refine ⟨hi, ?_, fun _ h => h⟩
    rcases hi.seen x b hb (Nat.pos_of_ne_zero h0) with h | h
    · exact h
    · rw [hs] at h; simp at h
theorem leave_inv {E : Nat → List Nat} {n : Nat} (hE : ∀ x, ∀ y ∈ E x, y < n) : DInv E (leave E n) ∧ ∀ x, x < n → x ∈ (leave E n).order := by
  have key : ∀ k, k ≤ n → (DOk E n ((List.range k).foldl (dnext E) ⟨[], List.replicate n 0, []⟩) ∧ ((List.range k).foldl (dnext E) ⟨[], List.replicate n 0, []⟩).stack = []) ∧
      DInv E ((List.range k).foldl (dnext E) ⟨[], List.replicate n 0, []⟩) ∧ ∀ x, x < k → x ∈ ((List.range k).foldl (dnext E) ⟨[], List.replicate n 0, []⟩).order := by
    intro k
    induction k with
    | zero =>
      refine fun _ => ⟨⟨dzero_ok E n, rfl⟩, ⟨fun j x y h => by simp at h, fun x b h h1 => ?_, fun x b h k y hk => ?_, fun x h => by simp at h, fun i u h => by simp at h⟩, fun x hx => by omega⟩
      · have := List.mem_of_getElem? h
        rw [show (List.foldl (dnext E) ⟨[], List.replicate n 0, []⟩ (List.range 0)).been = List.replicate n 0 from rfl, List.mem_replicate] at this
        omega
      · have := List.mem_of_getElem? h
        rw [show (List.foldl (dnext E) ⟨[], List.replicate n 0, []⟩ (List.range 0)).been = List.replicate n 0 from rfl, List.mem_replicate] at this
        omega
    | succ k ih =>
      intro hk
      rw [range_foldl_succ]
      obtain ⟨⟨h1, h2⟩, h3, h4⟩ := ih (by omega)
      obtain ⟨h5, h6, h7⟩ := dnext_inv hE h1 h2 (show k < n by omega) h3
      refine ⟨dnext_ok hE h1 h2 (by omega), h5, fun x hx => ?_⟩
      rcases Nat.lt_or_ge x k with h | h
      · exact h7 x (h4 x h)
      · obtain rfl : x = k := by omega
        exact h6
  exact (key n (Nat.le_refl _)).2
end Go.Reach
namespace Go.Reach
open Go.Proofs.Ythjldlgmfplngaa
/-- both lead to one another -/
def Mut (E : Nat → List Nat) (x y : Nat) : Prop := Rch E x y ∧ Rch E y x
theorem Mut.symm {E : Nat → List Nat} {x y : Nat} (h : Mut E x y) : Mut E y x := ⟨h.2, h.1⟩
theorem Mut.trans {E : Nat → List Nat} {x y z : Nat} (h : Mut E x y) (k : Mut E y z) : Mut E x z := ⟨h.1.trans k.1, k.2.trans h.2⟩
theorem Mut.refl (E : Nat → List Nat) (x : Nat) : Mut E x x := ⟨Rc.refl _ _, Rc.refl _ _⟩
theorem max_of {P : Nat → Prop} : ∀ (N : Nat), (∃ i, i < N ∧ P i) → ∃ i, i < N ∧ P i ∧ ∀ j, j < N → P j → j ≤ i
  | 0, h => by obtain ⟨i, h, _⟩ := h; omega
  | N + 1, h => by
    by_cases hN : P N
    · exact ⟨N, by omega, hN, fun j hj _ => by omega⟩
    · obtain ⟨i, hi, hp⟩ := h
      have : i ≠ N := fun e => hN (e ▸ hp)
      obtain ⟨k, h1, h2, h3⟩ := max_of N ⟨i, by omega, hp⟩
      exact ⟨k, by omega, h2, fun j hj hpj => by
        have : j ≠ N := fun e => hN (e ▸ hpj)
        exact h3 j (by omega) hpj⟩
theorem nd_at {α : Type} {L : List α} (h : L.Nodup) {i j : Nat} {x : α} (hi : L[i]? = some x) (hj : L[j]? = some x) : i = j := by
  obtain ⟨a, ea⟩ := List.getElem?_eq_some_iff.1 hi
  obtain ⟨b, eb⟩ := List.getElem?_eq_some_iff.1 hj
  have q := List.pairwise_iff_getElem.1 h
  rcases Nat.lt_trichotomy i j with hij | hij | hij
  · exact absurd (ea.trans eb.symm) (q i j a b hij)
  · exact hij
  · exact absurd (eb.trans ea.symm) (q j i b a hij)
def pa (s : Pt) (x : Nat) : Nat := (s.part[x]?).getD 0
theorem fill_at {c : Nat} : ∀ {L part : List Nat} {y : Nat}, y < part.length → (fill c L part)[y]? = if y ∈ L then some c else part[y]?
  | [], _, _, _ => rfl
  | z :: L, part, y, h => by
    show (fill c L (part.set z c))[y]? = _
    rw [fill_at (by rw [List.length_set]; exact h)]
    by_cases hy : y ∈ L
    · rw [if_pos hy, if_pos (List.mem_cons_of_mem _ hy)]
    · rw [if_neg hy]
      by_cases hz : z = y
      · subst hz
        rw [List.getElem?_set_self h, if_pos List.mem_cons_self]
      · rw [List.getElem?_set_ne hz, if_neg]
        intro h'
        rcases List.mem_cons.1 h' with h' | h'
        · exact hz h'.symm
        · exact hy h'
/-- a web's two sides fit -/
structure Fit (W : Wb ByteArray) (n : Nat) : Prop where
  ok : W.Ok
  len : W.ns.length = n
  turn : ∀ u v, u ∈ W.E (false, v) ↔ v ∈ W.E (true, u)
abbrev nx (W : Wb ByteArray) : Nat → List Nat := fun x => W.E (true, x)
theorem Fit.lt {W : Wb ByteArray} {n : Nat} (h : Fit W n) : ∀ x, ∀ y ∈ nx W x, y < n := fun _ _ hy => by
  have := h.ok.rng _ _ hy
  rwa [h.len] at this
theorem Fit.rlt {W : Wb ByteArray} {n x y : Nat} (h : Fit W n) (hx : x < n) (hr : Rch (nx W) x y) : y < n := hr.ind (P := fun y => y < n) hx fun u v _ _ hv => h.lt u v hv
theorem Fit.back {W : Wb ByteArray} {n x y : Nat} (h : Fit W n) (hy : y < n) (hr : Rch (nx W) x y) : x < n := by
  rcases hr.head with rfl | ⟨z, hz, _⟩
  · exact hy
  · rcases Nat.lt_or_ge x n with hl | hl
    · exact hl
    · have he : nx W x = [] := h.ok.out (true, x) (by rw [h.len]; exact hl)
      rw [he] at hz
      simp at hz
structure PInv (W : Wb ByteArray) (n : Nat) (o : List Nat) (m : Nat) (s : Pt) : Prop where
  ok : PtOk n s
  done : ∀ i u, m ≤ i → o[i]? = some u → pa s u ≠ 0
  scc : ∀ x y, x < n → Mut (nx W) x y → pa s x ≠ 0 → pa s y = pa s x
  cls : ∀ x y, x < n → y < n → pa s x ≠ 0 → pa s x = pa s y → Mut (nx W) x y
  siz : ∀ x, x < n → pa s x ≠ 0 → ∃ L : List Nat, L.Nodup ∧ s.size[pa s x]? = some L.length ∧ ∀ y, y ∈ L ↔ Mut (nx W) x y
theorem free_iff {W : Wb ByteArray} {n : Nat} {s : Pt} (hf : Fit W n) (hp : PtOk n s) {a z : Nat} : z ∈ freeB W s.part a ↔ a ∈ nx W z ∧ z < n ∧ pa s z = 0 := by
  unfold freeB
  rw [List.mem_filter, hf.turn, decide_eq_true_iff]
  constructor
  · rintro ⟨h1, h2⟩
    exact ⟨h1, by rw [← hp.len]; exact (List.getElem?_eq_some_iff.1 h2).1, by unfold pa; rw [h2]; rfl⟩
  · rintro ⟨h1, h2, h3⟩
    refine ⟨h1, ?_⟩
    unfold pa at h3
    rw [List.getElem?_eq_getElem (by rw [hp.len]; exact h2)] at h3 ⊢
    simpa using h3
/-- what is free and leads to the last free one of the order is just what it leads to and back -/
theorem fresh_iff {W : Wb ByteArray} {n m : Nat} {s : Pt} {u : Nat} (hf : Fit W n) (hi : PInv W n (leave (nx W) n).order (m + 1) s) (hu : (leave (nx W) n).order[m]? = some u) (h0 : pa s u = 0) :
    (fresh W s.part u n).Nodup ∧ ∀ y, y ∈ fresh W s.part u n ↔ Mut (nx W) u y := by
  have hE := hf.lt
  have hnd : (leave (nx W) n).order.Nodup := by
    have := (leave_ok hE).1.ond
    rwa [(leave_ok hE).2, List.append_nil] at this
  have hun : u < n := leave_lt hE (List.mem_of_getElem? hu)
  have hW : Whole (freeB W s.part) [u] (fresh W s.part u n) := by
    have := Whole.exists (f := freeB W s.part) (l0 := [u]) (U := List.range n) (by simp) (fun z hz => by rw [List.mem_singleton.1 hz]; exact List.mem_range.2 hun) (fun z _ y hy => List.mem_range.2 ((free_iff hf hi.ok).1 hy).2.1)
    rwa [List.length_range] at this
  refine ⟨hW.nodup (by simp), fun y => ?_⟩
  rw [mem_whole hW]
  constructor
  · intro hr
    obtain ⟨h1, h2, h3⟩ : Rch (nx W) y u ∧ y < n ∧ pa s y = 0 := hr.ind (P := fun y => Rch (nx W) y u ∧ y < n ∧ pa s y = 0) ⟨Rc.refl _ _, hun, h0⟩ fun a z _ ha hz => by
      obtain ⟨h1, h2, h3⟩ := (free_iff hf hi.ok).1 hz
      exact ⟨(Rc.one (r := fun u v => v ∈ nx W u) h1).trans ha.1, h2, h3⟩
    obtain ⟨i0, hi0⟩ := List.getElem?_of_mem ((leave_inv hE).2 y h2)
    obtain ⟨i, hil, ⟨u', hu', hm⟩, hmax⟩ := max_of (P := fun i => ∃ w, (leave (nx W) n).order[i]? = some w ∧ Mut (nx W) y w) (leave (nx W) n).order.length ⟨i0, (List.getElem?_eq_some_iff.1 hi0).1, y, hi0, Mut.refl _ _⟩
    have hu'n := leave_lt hE (List.mem_of_getElem? hu')
    have hfree : pa s u' = 0 := by
      rcases Nat.eq_zero_or_pos (pa s u') with h | h
      · exact h
      · have := hi.scc u' y hu'n hm.symm (by omega)
        omega
    have him : i ≤ m := by
      rcases Nat.lt_or_ge m i with h | h
      · exact absurd hfree (hi.done i u' h hu')
      · exact h
    have hum : u ∈ (leave (nx W) n).order.take (i + 1) := by
      rcases (leave_inv hE).1.gr i u' hu' u (hm.2.trans h1) with h | ⟨w, h4, h5, h6⟩
      · exact h
      · exfalso
        have hwn : w < n := hf.rlt hu'n h5
        obtain ⟨j, hj⟩ := List.getElem?_of_mem ((leave_inv hE).2 w hwn)
        have hji := hmax j (List.getElem?_eq_some_iff.1 hj).1 ⟨w, hj, hm.trans ⟨h5, h6⟩⟩
        refine h4 (List.mem_of_getElem? (i := j) ?_)
        rw [List.getElem?_take_of_lt (by omega)]
        exact hj
    obtain ⟨j, hj⟩ := List.getElem?_of_mem hum
    have hjl := (List.getElem?_eq_some_iff.1 hj).1
    rw [List.length_take] at hjl
    rw [List.getElem?_take_of_lt (by omega)] at hj
    have hjm := nd_at hnd hj hu
    have : i = m := by omega
    subst this
    rw [hu] at hu'
    injection hu' with hu'
    subst hu'
    exact hm.symm
  · intro hm
    have hal := hm.2.along.turn
    refine hal.mono fun a z hz => ?_
    have hum : Mut (nx W) u z := ⟨hm.1.trans hz.2.1, (Rc.one (r := fun u v => v ∈ nx W u) hz.1).trans hz.2.2⟩
    refine (free_iff hf hi.ok).2 ⟨hz.1, hf.rlt hun hum.1, ?_⟩
    rcases Nat.eq_zero_or_pos (pa s z) with h | h
    · exact h
    · have := hi.scc z u (hf.rlt hun hum.1) hum.symm (by omega)
      omega
theorem pstep_inv {W : Wb ByteArray} {n m : Nat} {s : Pt} {u : Nat} (hf : Fit W n) (hi : PInv W n (leave (nx W) n).order (m + 1) s) (hu : (leave (nx W) n).order[m]? = some u) : PInv W n (leave (nx W) n).order m (pstep W n s u) := by
  have hok := (pstep_ok (W := W) hi.ok u).1
  have hun : u < n := leave_lt hf.lt (List.mem_of_getElem? hu)
  unfold pstep at hok ⊢
  by_cases h0 : (s.part[u]?).getD 0 = 0
  · rw [if_pos h0] at hok ⊢
    obtain ⟨hnd, hmem⟩ := fresh_iff hf hi hu h0
    have hlt : ∀ x, x < n → pa s x < s.size.length := fun x hx => by
      refine hi.ok.lt _ ?_
      unfold pa
      rw [List.getElem?_eq_getElem (by rw [hi.ok.len]; exact hx)]
      exact List.getElem_mem _
    have hnew : ∀ x, x < n → pa ⟨fill s.size.length (fresh W s.part u n) s.part, s.size ++ [(fresh W s.part u n).length]⟩ x = if x ∈ fresh W s.part u n then s.size.length else pa s x := fun x hx => by
      unfold pa
      show ((fill _ _ _)[x]?).getD 0 = _
      rw [fill_at (by rw [hi.ok.len]; exact hx)]
      split <;> rfl
    have hpos := hi.ok.pos
    refine ⟨hok, fun i v hmi hv => ?_, fun x y hx hxy hp => ?_, fun x y hx hy hp he => ?_, fun x hx hp => ?_⟩
    · have hvn : v < n := leave_lt hf.lt (List.mem_of_getElem? hv)
      rw [hnew v hvn]
      split
      · omega
      · rename_i hv'
        refine hi.done i v ?_ hv
        rcases Nat.lt_or_ge m i with h | h
        · exact h
        · obtain rfl : i = m := by omega
          rw [hu] at hv
          injection hv with hv
          exact absurd ((hmem v).2 (by rw [hv]; exact Mut.refl _ _)) hv'
    · have hy := hf.rlt hx hxy.1
      rw [hnew x hx] at hp ⊢
      rw [hnew y hy]
      by_cases hxL : x ∈ fresh W s.part u n
      · rw [if_pos hxL, if_pos ((hmem y).2 (((hmem x).1 hxL).trans hxy))]
      · rw [if_neg hxL] at hp ⊢
        rw [if_neg fun hyL => hxL ((hmem x).2 (((hmem y).1 hyL).trans hxy.symm))]
        exact hi.scc x y hx hxy hp
    · rw [hnew x hx] at hp he
      rw [hnew y hy] at he
      by_cases hxL : x ∈ fresh W s.part u n
      · rw [if_pos hxL] at he
        by_cases hyL : y ∈ fresh W s.part u n
        · exact ((hmem x).1 hxL).symm.trans ((hmem y).1 hyL)
        · rw [if_neg hyL] at he
          have := hlt y hy
          omega
      · rw [if_neg hxL] at hp he
        by_cases hyL : y ∈ fresh W s.part u n
        · rw [if_pos hyL] at he
          have := hlt x hx
          omega
        · rw [if_neg hyL] at he
          exact hi.cls x y hx hy hp he
    · rw [hnew x hx] at hp ⊢
      by_cases hxL : x ∈ fresh W s.part u n
      · rw [if_pos hxL]
        refine ⟨fresh W s.part u n, hnd, ?_, fun y => ?_⟩
        · show (s.size ++ [_])[s.size.length]? = _
          rw [List.getElem?_append_right (Nat.le_refl _), Nat.sub_self]
          rfl
        · rw [hmem]
          exact ⟨fun h => ((hmem x).1 hxL).symm.trans h, fun h => ((hmem x).1 hxL).trans h⟩
      · rw [if_neg hxL] at hp ⊢
        obtain ⟨L, h1, h2, h3⟩ := hi.siz x hx hp
        refine ⟨L, h1, ?_, h3⟩
        show (s.size ++ [_])[pa s x]? = _
        rw [List.getElem?_append_left (hlt x hx)]
        exact h2
  · rw [if_neg h0] at hok ⊢
    refine ⟨hi.ok, fun i v hmi hv => ?_, hi.scc, hi.cls, hi.siz⟩
    rcases Nat.lt_or_ge m i with h | h
    · exact hi.done i v h hv
    · obtain rfl : i = m := by omega
      rw [hu] at hv
      injection hv with hv
      rw [← hv]
      exact h0
theorem parts_inv {W : Wb ByteArray} {n : Nat} (hf : Fit W n) : PInv W n (leave (nx W) n).order 0 (parts W n) := by
  have key : ∀ d m, m + d = (leave (nx W) n).order.length → PInv W n (leave (nx W) n).order m (((leave (nx W) n).order.drop m).reverse.foldl (pstep W n) ⟨List.replicate n 0, [0]⟩) := by
    intro d
    induction d with
    | zero =>
      intro m hm
      rw [List.drop_eq_nil_of_le (by omega)]
      have hz : ∀ x, pa (List.foldl (pstep W n) ⟨List.replicate n 0, [0]⟩ ([] : List Nat).reverse) x = 0 := fun x => by
        show ((List.replicate n 0)[x]?).getD 0 = 0
        rw [List.getElem?_replicate]
        split <;> rfl
      refine ⟨pzero_ok n, fun i u hi hu => ?_, fun x y _ _ hp => absurd (hz x) hp, fun x y _ _ hp => absurd (hz x) hp, fun x _ hp => absurd (hz x) hp⟩
      have := (List.getElem?_eq_some_iff.1 hu).1
      omega
    | succ d ih =>
      intro m hm
      have hml : m < (leave (nx W) n).order.length := by omega
      rw [List.drop_eq_getElem_cons hml, List.reverse_cons, List.foldl_append]
      exact pstep_inv hf (ih (m + 1) (by omega)) (List.getElem?_eq_getElem hml)
  have h := key (leave (nx W) n).order.length 0 (by omega)
  rw [List.drop_zero] at h
  exact h
/-- the parts, in the end -/
theorem parts_end {W : Wb ByteArray} {n : Nat} (hf : Fit W n) {x : Nat} (hx : x < n) : pa (parts W n) x ≠ 0 := by
  obtain ⟨i, hi⟩ := List.getElem?_of_mem ((leave_inv hf.lt).2 x hx)
  exact (parts_inv hf).done i x (Nat.zero_le _) hi
theorem parts_mut {W : Wb ByteArray} {n : Nat} (hf : Fit W n) {x y : Nat} (hx : x < n) (hy : y < n) : pa (parts W n) x = pa (parts W n) y ↔ Mut (nx W) x y :=
  ⟨fun h => (parts_inv hf).cls x y hx hy (parts_end hf hx) h, fun h => ((parts_inv hf).scc x y hx h (parts_end hf hx)).symm⟩
theorem parts_lt {W : Wb ByteArray} {n : Nat} (hf : Fit W n) {x : Nat} (hx : x < n) : pa (parts W n) x < (parts W n).size.length := by
  refine (parts_inv hf).ok.lt _ ?_
  unfold pa
  rw [List.getElem?_eq_getElem (by rw [(parts_inv hf).ok.len]; exact hx)]
  exact List.getElem_mem _
/-- leads to itself -/
def Lp (E : Nat → List Nat) (x : Nat) : Prop := ∃ z ∈ E x, Rch E z x
theorem solo_iff {W : Wb ByteArray} {n : Nat} (hf : Fit W n) {x : Nat} (hx : x < n) : solo W (parts W n) x ↔ ¬ Lp (nx W) x := by
  obtain ⟨L, hnd, hsz, hmem⟩ := (parts_inv hf).siz x hx (parts_end hf hx)
  have hsz' : ((parts W n).size[((parts W n).part[x]?).getD 0]?).getD 0 = L.length := by
    show ((parts W n).size[pa (parts W n) x]?).getD 0 = _
    rw [hsz]; rfl
  have hxL := (hmem x).2 (Mut.refl _ _)
  unfold solo
  rw [hsz']
  constructor
  · rintro ⟨h1, h2⟩ ⟨z, hz, hr⟩
    have hzL : z ∈ L := (hmem z).2 ⟨Rc.one hz, hr⟩
    match L, h1, hxL, hzL with
    | [a], _, hxL, hzL =>
      rw [List.mem_singleton] at hxL hzL
      rw [hzL, ← hxL] at hz
      exact h2 hz
    | [], _, hxL, _ => simp at hxL
    | _ :: _ :: _, h1, _, _ => simp only [List.length_cons] at h1; omega
  · intro h
    refine ⟨?_, fun hE => h ⟨x, hE, Rc.refl _ _⟩⟩
    rcases Nat.lt_or_ge L.length 2 with h2 | h2
    · exact h2
    · exfalso
      have : ∃ y ∈ L, y ≠ x := by
        match L, hnd, h2 with
        | a :: b :: l, hnd, _ =>
          by_cases ha : a = x
          · refine ⟨b, by simp, fun e => ?_⟩
            rw [List.nodup_cons] at hnd
            exact hnd.1 (by rw [ha, ← e]; simp)
          · exact ⟨a, by simp, ha⟩
      obtain ⟨y, hyL, hne⟩ := this
      have hm := (hmem y).1 hyL
      rcases hm.1.head with e | ⟨z, hz, hr⟩
      · exact hne e.symm
      · exact h ⟨z, hz, hr.trans hm.2⟩
end Go.Reach
namespace Go.Reach
open Go.Proofs.Ythjldlgmfplngaa
section
variable (I : Nat → Bool) (c : Nat → Nat) (nm : Nat → ByteArray)
def gstep (r : Rn) (x : Nat) : Rn := if I x then rput (ropen r (c x)) (c x) (nm x) else r
def isFst (x : Nat) : Bool := I x && (List.range x).all fun y => !(I y && c y == c x)
def firsts (k : Nat) : List Nat := (List.range k).filter (isFst I c)
def ringOf (k j : Nat) : List ByteArray := ((List.range k).filter fun z => I z && c z == c j).map nm
variable {I c nm}
theorem isFst_iff {x : Nat} : isFst I c x = true ↔ I x = true ∧ ∀ y, y < x → I y = true → c y ≠ c x := by
  unfold isFst
  rw [Bool.and_eq_true, List.all_eq_true]
  constructor
  · rintro ⟨h1, h2⟩
    refine ⟨h1, fun y hy hI he => ?_⟩
    have := h2 y (List.mem_range.2 hy)
    simp [hI, he] at this
  · rintro ⟨h1, h2⟩
    refine ⟨h1, fun y hy => ?_⟩
    by_cases hI : I y = true
    · have := h2 y (List.mem_range.1 hy) hI
      simp [hI, this]
    · simp [hI]
theorem mem_firsts {k j : Nat} : j ∈ firsts I c k ↔ j < k ∧ I j = true ∧ ∀ y, y < j → I y = true → c y ≠ c j := by
  unfold firsts
  rw [List.mem_filter, List.mem_range, isFst_iff]
theorem firsts_inj {k i j : Nat} (hi : i ∈ firsts I c k) (hj : j ∈ firsts I c k) (h : c i = c j) : i = j := by
  obtain ⟨_, a1, a2⟩ := mem_firsts.1 hi
  obtain ⟨_, b1, b2⟩ := mem_firsts.1 hj
  rcases Nat.lt_trichotomy i j with hl | hl | hl
  · exact absurd h (b2 i hl a1)
  · exact hl
  · exact absurd h.symm (a2 j hl b1)
theorem first_ex : ∀ (z : Nat) {k : Nat}, z < k → I z = true → ∃ j ∈ firsts I c k, c j = c z := by
  intro z
  induction z using Nat.strongRecOn with
  | _ z ih =>
    intro k hz hI
    by_cases h : ∃ y, y < z ∧ I y = true ∧ c y = c z
    · obtain ⟨y, h1, h2, h3⟩ := h
      obtain ⟨j, h4, h5⟩ := ih y h1 (show y < k by omega) h2
      exact ⟨j, h4, h5.trans h3⟩
    · exact ⟨z, mem_firsts.2 ⟨hz, hI, fun y hy hIy he => h ⟨y, hy, hIy, he⟩⟩, rfl⟩
theorem firsts_succ (k : Nat) : firsts I c (k + 1) = firsts I c k ++ if isFst I c k = true then [k] else [] := by
  unfold firsts
  rw [List.range_succ, List.filter_append]
  congr 1
  by_cases h : isFst I c k = true
  · simp [h]
  · simp [h]
theorem ringOf_succ (k j : Nat) : ringOf I c nm (k + 1) j = ringOf I c nm k j ++ if (I k && c k == c j) = true then [nm k] else [] := by
  unfold ringOf
  rw [List.range_succ, List.filter_append, List.map_append]
  congr 1
  by_cases h : (I k && c k == c j) = true
  · simp [h]
  · simp only [Bool.not_eq_true] at h
    simp [h]
theorem firsts_nodup (k : Nat) : (firsts I c k).Nodup := List.nodup_range.sublist List.filter_sublist
structure GInv (I : Nat → Bool) (c : Nat → Nat) (nm : Nat → ByteArray) (m k : Nat) (r : Rn) : Prop where
  rings : r.rings = (firsts I c k).map (ringOf I c nm k)
  len : r.place.length = m
  at1 : ∀ p j, (firsts I c k)[p]? = some j → r.place[c j]? = some (p + 1)
  at0 : ∀ q, q < m → (∀ j ∈ firsts I c k, c j ≠ q) → r.place[q]? = some 0
theorem gstep_inv {m k : Nat} {r : Rn} (h : GInv I c nm m k r) (hc : c k < m) : GInv I c nm m (k + 1) (gstep I c nm r k) := by
  unfold gstep
  by_cases hI : I k = true
  · rw [if_pos hI]
    by_cases hf : isFst I c k = true
    · have hfs : firsts I c (k + 1) = firsts I c k ++ [k] := by rw [firsts_succ, if_pos hf]
      have hno : ∀ j ∈ firsts I c k, c j ≠ c k := fun j hj => by
        obtain ⟨h1, h2, _⟩ := mem_firsts.1 hj
        exact (isFst_iff.1 hf).2 j h1 h2
      have h0 : (r.place[c k]?).getD 0 = 0 := by rw [h.at0 _ hc hno]; rfl
      have ho : ropen r (c k) = ⟨r.place.set (c k) (r.rings.length + 1), r.rings ++ [[]]⟩ := if_pos h0
      have hp : ((r.place.set (c k) (r.rings.length + 1))[c k]?).getD 0 = r.rings.length + 1 := by
        rw [List.getElem?_set_self (by rw [h.len]; exact hc)]; rfl
      have hl : (firsts I c k).length = r.rings.length := by rw [h.rings, List.length_map]
      rw [ho]
      unfold rput
      simp only [hp, Nat.add_sub_cancel]
      have e1 : ((r.rings ++ [[]])[r.rings.length]?).getD [] = [] := by simp
      rw [e1]
      refine ⟨?_, by simp [h.len], fun p j hpj => ?_, fun q hq hqj => ?_⟩
      · have e2 : (r.rings ++ [[]]).set r.rings.length ([] ++ [nm k]) = r.rings ++ [[nm k]] := by simp
        show (r.rings ++ [[]]).set r.rings.length ([] ++ [nm k]) = _
        rw [e2, hfs, List.map_append]
        congr 1
        · rw [h.rings]
          refine List.map_congr_left fun j hj => ?_
          rw [ringOf_succ, if_neg, List.append_nil]
          have := hno j hj
          simp [hI, this.symm]
        · show [[nm k]] = [ringOf I c nm (k + 1) k]
          rw [ringOf_succ, if_pos (by simp [hI])]
          have : ringOf I c nm k k = [] := by
            unfold ringOf
            rw [List.map_eq_nil_iff, List.filter_eq_nil_iff]
            intro z hz hzz
            rw [Bool.and_eq_true] at hzz
            exact (isFst_iff.1 hf).2 z (List.mem_range.1 hz) hzz.1 (by simpa using hzz.2)
          rw [this]; rfl
      · rw [hfs] at hpj
        show (r.place.set (c k) (r.rings.length + 1))[c j]? = some (p + 1)
        rcases Nat.lt_or_ge p (firsts I c k).length with hpl | hpl
        · rw [List.getElem?_append_left hpl] at hpj
          have hj := List.mem_of_getElem? hpj
          rw [List.getElem?_set_ne (hno j hj).symm]
          exact h.at1 p j hpj
        · have hpl2 := (List.getElem?_eq_some_iff.1 hpj).1
          rw [List.length_append, List.length_singleton] at hpl2
          rw [List.getElem?_append_right hpl, show p - (firsts I c k).length = 0 by omega] at hpj
          simp at hpj
          subst hpj
          rw [List.getElem?_set_self (by rw [h.len]; exact hc)]
          congr 1
          omega
      · show (r.place.set (c k) (r.rings.length + 1))[q]? = some 0
        rw [List.getElem?_set_ne (hqj k (by rw [hfs]; simp))]
        exact h.at0 q hq fun j hj => hqj j (by rw [hfs]; exact List.mem_append_left _ hj)
    · have hfs : firsts I c (k + 1) = firsts I c k := by rw [firsts_succ, if_neg hf, List.append_nil]
      obtain ⟨j, hj, hcj⟩ : ∃ j ∈ firsts I c k, c j = c k := by
        have hn : ¬ ∀ y, y < k → I y = true → c y ≠ c k := fun h' => hf (isFst_iff.2 ⟨hI, h'⟩)
        rw [Classical.not_forall] at hn
        obtain ⟨y, hn⟩ := hn
        rw [Classical.not_imp] at hn
        obtain ⟨hy, hn⟩ := hn
        rw [Classical.not_imp] at hn
        obtain ⟨hIy, hn⟩ := hn
        obtain ⟨j, h1, h2⟩ := first_ex (c := c) y hy hIy
        exact ⟨j, h1, h2.trans (Classical.not_not.1 hn)⟩
      obtain ⟨p, hp⟩ := List.getElem?_of_mem hj
      have hpl := (List.getElem?_eq_some_iff.1 hp).1
      have hpk : (r.place[c k]?).getD 0 = p + 1 := by rw [← hcj, h.at1 p j hp]; rfl
      have ho : ropen r (c k) = r := if_neg (by rw [hpk]; omega)
      rw [ho]
      unfold rput
      simp only [hpk, Nat.add_sub_cancel]
      refine ⟨?_, h.len, fun q i hq => h.at1 q i (by rw [← hfs]; exact hq), fun q hq hqj => h.at0 q hq fun i hi => hqj i (by rw [hfs]; exact hi)⟩
      rw [hfs]
      have hrp : (r.rings[p]?).getD [] = ringOf I c nm k j := by
        rw [h.rings, List.getElem?_map, hp]; rfl
      rw [hrp]
      refine List.ext_getElem? fun i => ?_
      show (r.rings.set p (ringOf I c nm k j ++ [nm k]))[i]? = _
      rw [List.getElem?_map]
      by_cases hip : p = i
      · subst hip
        rw [List.getElem?_set_self (by rw [h.rings, List.length_map]; exact hpl), hp]
        show _ = some (ringOf I c nm (k + 1) j)
        rw [ringOf_succ, if_pos (by simp [hI, hcj])]
      · rw [List.getElem?_set_ne hip, h.rings, List.getElem?_map]
        cases hi : (firsts I c k)[i]? with
        | none => rfl
        | some i' =>
          show some (ringOf I c nm k i') = some (ringOf I c nm (k + 1) i')
          have hne : c k ≠ c i' := fun e => hip (by
            have := firsts_inj hj (List.mem_of_getElem? hi) (hcj.trans e)
            subst this
            exact nd_at (firsts_nodup k) hp hi)
          rw [ringOf_succ, if_neg (by simp [hI, hne]), List.append_nil]
  · have hfs : firsts I c (k + 1) = firsts I c k := by
      rw [firsts_succ, if_neg (fun h' => hI (isFst_iff.1 h').1), List.append_nil]
    rw [if_neg hI]
    refine ⟨?_, h.len, fun p j hp => h.at1 p j (by rw [← hfs]; exact hp), fun q hq hqj => h.at0 q hq fun i hi => hqj i (by rw [hfs]; exact hi)⟩
    rw [hfs, h.rings]
    refine List.map_congr_left fun j hj => ?_
    rw [ringOf_succ, if_neg (by simp [hI]), List.append_nil]
theorem gfold_inv {m n : Nat} (hc : ∀ k, k < n → c k < m) : ∀ k, k ≤ n → GInv I c nm m k ((List.range k).foldl (gstep I c nm) ⟨List.replicate m 0, []⟩)
  | 0, _ => ⟨rfl, by simp, fun p j h => by simp [firsts] at h, fun q hq _ => by
      show (List.replicate m 0)[q]? = _
      rw [List.getElem?_replicate, if_pos hq]⟩
  | k + 1, hk => by
    rw [range_foldl_succ]
    exact gstep_inv (gfold_inv hc k (by omega)) (hc k (by omega))
end
/-- which numbers stand in a ring, in which part, and their names -/
def inR (W : Wb ByteArray) (x : Nat) : Bool := !decide (solo W (parts W W.ns.length) x)
def clR (W : Wb ByteArray) (x : Nat) : Nat := pa (parts W W.ns.length) x
def nmR (W : Wb ByteArray) (x : Nat) : ByteArray := (W.ns[x]?).getD ByteArray.empty
theorem rstep_gstep (W : Wb ByteArray) : rstep W (parts W W.ns.length) = gstep (inR W) (clR W) (nmR W) := by
  funext r x
  unfold rstep gstep inR
  by_cases h : solo W (parts W W.ns.length) x
  · rw [if_pos h, if_neg (by simp [h])]
  · rw [if_neg h, if_pos (by simp [h])]
    rfl
theorem ringsL_eq {ps : List Pr} (hf : Fit (web (prs ps)) (web (prs ps)).ns.length) :
    ringsL ps = (firsts (inR (web (prs ps))) (clR (web (prs ps))) (web (prs ps)).ns.length).map (ringOf (inR (web (prs ps))) (clR (web (prs ps))) (nmR (web (prs ps))) (web (prs ps)).ns.length) := by
  unfold ringsL rnAll
  rw [rstep_gstep]
  exact (gfold_inv (m := (parts (web (prs ps)) (web (prs ps)).ns.length).size.length) (fun k hk => parts_lt hf hk) _ (Nat.le_refl _)).rings
end Go.Reach
namespace Go.Reach
open Go.Proofs.Ythjldlgmfplngaa
section
variable {α : Type} [DecidableEq α]
structure WL (ps : List (α × α)) (W : Wb α) : Prop where
  ns : ∀ s, s ∈ W.ns ↔ ∃ p ∈ ps, p.1 = s ∨ p.2 = s
  nx : ∀ u v, v ∈ W.E (true, u) ↔ ∃ p ∈ ps, pos W.ns p.1 = u ∧ pos W.ns p.2 = v
  bk : ∀ u v, u ∈ W.E (false, v) ↔ ∃ p ∈ ps, pos W.ns p.1 = u ∧ pos W.ns p.2 = v
theorem Wb.mem_add_iff (W : Wb α) (s t : α) : t ∈ (W.add s).ns ↔ t ∈ W.ns ∨ t = s := by
  unfold Wb.add
  split
  · rename_i h
    exact ⟨.inl, fun h' => h'.elim id fun e => e ▸ h⟩
  · simp
theorem WL.pair {ps : List (α × α)} {W : Wb α} (h : WL ps W) (p : α × α) : WL (ps ++ [p]) (W.pair p) := by
  have hE : ((W.add p.1).add p.2).E = W.E := by rw [Wb.add_E, Wb.add_E]
  have hns : ∀ s, s ∈ ((W.add p.1).add p.2).ns ↔ s ∈ W.ns ∨ s = p.1 ∨ s = p.2 := fun s => by rw [Wb.mem_add_iff, Wb.mem_add_iff, or_assoc]
  have hpos : ∀ s, s ∈ W.ns → pos ((W.add p.1).add p.2).ns s = pos W.ns s := fun s hs => by rw [Wb.pos_add _ _ (Wb.sub_add _ _ hs), Wb.pos_add _ _ hs]
  have old : ∀ u v, (∃ q ∈ ps, pos W.ns q.1 = u ∧ pos W.ns q.2 = v) ↔ ∃ q ∈ ps, pos ((W.add p.1).add p.2).ns q.1 = u ∧ pos ((W.add p.1).add p.2).ns q.2 = v := fun u v => by
    constructor
    · rintro ⟨q, hq, h1, h2⟩
      exact ⟨q, hq, by rw [hpos _ ((h.ns _).2 ⟨q, hq, .inl rfl⟩)]; exact h1, by rw [hpos _ ((h.ns _).2 ⟨q, hq, .inr rfl⟩)]; exact h2⟩
    · rintro ⟨q, hq, h1, h2⟩
      rw [hpos _ ((h.ns _).2 ⟨q, hq, .inl rfl⟩)] at h1
      rw [hpos _ ((h.ns _).2 ⟨q, hq, .inr rfl⟩)] at h2
      exact ⟨q, hq, h1, h2⟩
  have snoc : ∀ P : α × α → Prop, (∃ q ∈ ps ++ [p], P q) ↔ (∃ q ∈ ps, P q) ∨ P p := fun P => by
    constructor
    · rintro ⟨q, hq, h1⟩
      rcases List.mem_append.1 hq with hq | hq
      · exact .inl ⟨q, hq, h1⟩
      · rw [List.mem_singleton.1 hq] at h1; exact .inr h1
    · rintro (⟨q, hq, h1⟩ | h1)
      · exact ⟨q, List.mem_append_left _ hq, h1⟩
      · exact ⟨p, by simp, h1⟩
  refine ⟨fun s => ?_, fun u v => ?_, fun u v => ?_⟩
  · show s ∈ ((W.add p.1).add p.2).ns ↔ _
    rw [hns, h.ns, snoc, eq_comm (a := s) (b := p.1), eq_comm (a := s) (b := p.2)]
  · show v ∈ (if (true, u) = (true, pos ((W.add p.1).add p.2).ns p.1) then ((W.add p.1).add p.2).E (true, u) ++ [pos ((W.add p.1).add p.2).ns p.2] else if (true, u) = (false, pos ((W.add p.1).add p.2).ns p.2) then ((W.add p.1).add p.2).E (true, u) ++ [pos ((W.add p.1).add p.2).ns p.1] else ((W.add p.1).add p.2).E (true, u)) ↔ ∃ q ∈ ps ++ [p], pos ((W.add p.1).add p.2).ns q.1 = u ∧ pos ((W.add p.1).add p.2).ns q.2 = v
    rw [hE, snoc, ← old, ← h.nx]
    by_cases hu : u = pos ((W.add p.1).add p.2).ns p.1
    · rw [if_pos (by rw [hu]), List.mem_append, List.mem_singleton]
      exact ⟨fun h => h.imp id fun e => ⟨hu.symm, e.symm⟩, fun h => h.imp id fun e => e.2.symm⟩
    · rw [if_neg (fun e => hu (by injection e)), if_neg (fun e => by injection e with e _; cases e)]
      exact ⟨.inl, fun h => h.resolve_right fun e => hu e.1.symm⟩
  · show u ∈ (if (false, v) = (true, pos ((W.add p.1).add p.2).ns p.1) then ((W.add p.1).add p.2).E (false, v) ++ [pos ((W.add p.1).add p.2).ns p.2] else if (false, v) = (false, pos ((W.add p.1).add p.2).ns p.2) then ((W.add p.1).add p.2).E (false, v) ++ [pos ((W.add p.1).add p.2).ns p.1] else ((W.add p.1).add p.2).E (false, v)) ↔ ∃ q ∈ ps ++ [p], pos ((W.add p.1).add p.2).ns q.1 = u ∧ pos ((W.add p.1).add p.2).ns q.2 = v
    rw [hE, snoc, ← old, ← h.bk, if_neg (fun e => by injection e with e _; cases e)]
    by_cases hv : v = pos ((W.add p.1).add p.2).ns p.2
    · rw [if_pos (by rw [hv]), List.mem_append, List.mem_singleton]
      exact ⟨fun h => h.imp id fun e => ⟨e.symm, hv.symm⟩, fun h => h.imp id fun e => e.1.symm⟩
    · rw [if_neg (fun e => hv (by injection e))]
      exact ⟨.inl, fun h => h.resolve_right fun e => hv e.2.symm⟩
theorem WL.foldl : ∀ (qs ps : List (α × α)) (W : Wb α), WL ps W → WL (ps ++ qs) (qs.foldl Wb.pair W)
  | [], ps, W, h => by rw [List.append_nil]; exact h
  | q :: qs, ps, W, h => by
    have := WL.foldl qs (ps ++ [q]) (W.pair q) (h.pair q)
    rw [List.append_assoc] at this
    exact this
theorem web_wl (ps : List (α × α)) : WL ps (web ps) := by
  have := WL.foldl ps [] (⟨[], fun _ => []⟩ : Wb α) ⟨fun s => by simp, fun u v => by simp, fun u v => by simp⟩
  rwa [List.nil_append] at this
end
/-- a name leads to another one, by at least one line -/
def Lead (ps : List Pr) (a b : ByteArray) : Prop := ∃ p ∈ ps, p.a = a ∧ b ∈ upL ps p.b
section
variable {ps : List Pr}
theorem web_fit (ps : List Pr) : Fit (web (prs ps)) (web (prs ps)).ns.length := ⟨web_ok _, rfl, fun u v => by rw [(web_wl (prs ps)).bk, (web_wl (prs ps)).nx]⟩
abbrev wb (ps : List Pr) : Wb ByteArray := web (prs ps)
abbrev cnt (ps : List Pr) : Nat := (web (prs ps)).ns.length
abbrev nmo (ps : List Pr) (x : Nat) : ByteArray := nmR (web (prs ps)) x
abbrev lineR (ps : List Pr) : ByteArray → ByteArray → Prop := fun u v => v ∈ line ps u
theorem nm_get {x : Nat} (hx : x < cnt ps) : (wb ps).ns[x]? = some (nmo ps x) := by
  unfold nmo nmR
  rw [List.getElem?_eq_getElem hx]; rfl
theorem nm_inj {x y : Nat} (hx : x < cnt ps) (hy : y < cnt ps) (h : nmo ps x = nmo ps y) : x = y := nd_at (web_ok (prs ps)).nd (nm_get hx) (by rw [h]; exact nm_get hy)
theorem nm_pos {s : ByteArray} (h : s ∈ (wb ps).ns) : pos (wb ps).ns s < cnt ps ∧ nmo ps (pos (wb ps).ns s) = s := by
  refine ⟨pos_lt h, ?_⟩
  have := nm_get (ps := ps) (pos_lt h)
  rw [pos_at h] at this
  injection this with this
  exact this.symm
theorem mem_prs {q : ByteArray × ByteArray} : q ∈ prs ps ↔ ∃ p ∈ ps, p.a = q.1 ∧ p.b = q.2 := by
  unfold prs
  rw [List.mem_map]
  constructor
  · rintro ⟨p, hp, rfl⟩; exact ⟨p, hp, rfl, rfl⟩
  · rintro ⟨p, hp, h1, h2⟩; exact ⟨p, hp, by rw [h1, h2]⟩
theorem ns_a {p : Pr} (hp : p ∈ ps) : p.a ∈ (wb ps).ns := ((web_wl (prs ps)).ns _).2 ⟨(p.a, p.b), mem_prs.2 ⟨p, hp, rfl, rfl⟩, .inl rfl⟩
theorem ns_b {p : Pr} (hp : p ∈ ps) : p.b ∈ (wb ps).ns := ((web_wl (prs ps)).ns _).2 ⟨(p.a, p.b), mem_prs.2 ⟨p, hp, rfl, rfl⟩, .inr rfl⟩
theorem edge1 {u v : Nat} (h : v ∈ nx (wb ps) u) : u < cnt ps ∧ v < cnt ps ∧ nmo ps v ∈ line ps (nmo ps u) := by
  obtain ⟨q, hq, rfl, rfl⟩ := ((web_wl (prs ps)).nx u v).1 h
  obtain ⟨p, hp, e1, e2⟩ := mem_prs.1 hq
  have a1 := nm_pos (ns_a hp)
  have a2 := nm_pos (ns_b hp)
  rw [e1] at a1
  rw [e2] at a2
  exact ⟨a1.1, a2.1, mem_line.2 ⟨p, hp, by rw [a1.2, e1], by rw [a2.2, e2]⟩⟩
theorem edge2 {u : Nat} {b : ByteArray} (hu : u < cnt ps) (h : b ∈ line ps (nmo ps u)) : ∃ v, v < cnt ps ∧ v ∈ nx (wb ps) u ∧ nmo ps v = b := by
  obtain ⟨p, hp, e1, e2⟩ := mem_line.1 h
  have a1 := nm_pos (ns_a hp)
  have a2 := nm_pos (ns_b hp)
  refine ⟨pos (wb ps).ns p.b, a2.1, ((web_wl (prs ps)).nx _ _).2 ⟨(p.a, p.b), mem_prs.2 ⟨p, hp, rfl, rfl⟩, ?_, rfl⟩, by rw [a2.2, e2]⟩
  exact nm_inj a1.1 hu (by rw [a1.2, e1])
theorem rc1 {x y : Nat} (h : Rch (nx (wb ps)) x y) : Rc (lineR ps) (nmo ps x) (nmo ps y) := h.ind (P := fun y => Rc (lineR ps) (nmo ps x) (nmo ps y)) (Rc.refl _ _) fun _ _ _ hu hv => hu.step (edge1 hv).2.2
theorem rc2 {x : Nat} {b : ByteArray} (hx : x < cnt ps) (h : Rc (lineR ps) (nmo ps x) b) : ∃ y, y < cnt ps ∧ nmo ps y = b ∧ Rch (nx (wb ps)) x y :=
  h.ind (P := fun b => ∃ y, y < cnt ps ∧ nmo ps y = b ∧ Rch (nx (wb ps)) x y) ⟨x, hx, rfl, Rc.refl _ _⟩ fun u v _ hu hv => by
    obtain ⟨y, hy, rfl, hr⟩ := hu
    obtain ⟨z, hz, hz1, hz2⟩ := edge2 hy hv
    exact ⟨z, hz, hz2, hr.step hz1⟩
theorem upL_rc {x y : ByteArray} : y ∈ upL ps x ↔ Rc (lineR ps) x y := mem_whole (upL_whole ps x)
theorem lead_line {a b : ByteArray} : Lead ps a b ↔ ∃ d ∈ line ps a, Rc (lineR ps) d b := by
  constructor
  · rintro ⟨p, hp, rfl, h⟩
    exact ⟨p.b, mem_line.2 ⟨p, hp, rfl, rfl⟩, upL_rc.1 h⟩
  · rintro ⟨d, hd, h⟩
    obtain ⟨p, hp, rfl, rfl⟩ := mem_line.1 hd
    exact ⟨p, hp, rfl, upL_rc.2 h⟩
theorem Lead.trans {a b d : ByteArray} (h : Lead ps a b) (k : Lead ps b d) : Lead ps a d := by
  obtain ⟨u, hu, h1⟩ := lead_line.1 h
  obtain ⟨v, hv, h2⟩ := lead_line.1 k
  exact lead_line.2 ⟨u, hu, (h1.step hv).trans h2⟩
theorem lead_num {x y : Nat} (hx : x < cnt ps) (hy : y < cnt ps) : Lead ps (nmo ps x) (nmo ps y) ↔ ∃ z ∈ nx (wb ps) x, Rch (nx (wb ps)) z y := by
  rw [lead_line]
  constructor
  · rintro ⟨d, hd, h⟩
    obtain ⟨z, hz, hz1, rfl⟩ := edge2 hx hd
    obtain ⟨y', hy', e, hr⟩ := rc2 hz h
    rw [nm_inj hy' hy e] at hr
    exact ⟨z, hz1, hr⟩
  · rintro ⟨z, hz, hr⟩
    exact ⟨_, (edge1 hz).2.2, rc1 hr⟩
theorem lead_in {a b : ByteArray} (h : Lead ps a b) : (∃ x, x < cnt ps ∧ nmo ps x = a) ∧ ∃ y, y < cnt ps ∧ nmo ps y = b := by
  obtain ⟨p, hp, rfl, h⟩ := h
  have a1 := nm_pos (ns_a hp)
  have a2 := nm_pos (ns_b hp)
  refine ⟨⟨_, a1⟩, ?_⟩
  have h' := upL_rc.1 h
  rw [← a2.2] at h'
  obtain ⟨y, hy, e, _⟩ := rc2 a2.1 h'
  exact ⟨y, hy, e⟩
theorem inR_iff {x : Nat} (hx : x < cnt ps) : inR (wb ps) x = true ↔ Lead ps (nmo ps x) (nmo ps x) := by
  unfold inR
  rw [lead_num hx hx, Bool.not_eq_true', decide_eq_false_iff_not, solo_iff (web_fit ps) hx, Classical.not_not]
  rfl
theorem cl_iff {x z : Nat} (hx : x < cnt ps) (hz : z < cnt ps) (hI : inR (wb ps) x = true) : (inR (wb ps) z && clR (wb ps) z == clR (wb ps) x) = true ↔ Lead ps (nmo ps x) (nmo ps z) ∧ Lead ps (nmo ps z) (nmo ps x) := by
  rw [Bool.and_eq_true, inR_iff hz, beq_iff_eq]
  have hm : clR (wb ps) z = clR (wb ps) x ↔ Mut (nx (wb ps)) z x := parts_mut (web_fit ps) hz hx
  rw [hm]
  have hLx := (inR_iff hx).1 hI
  constructor
  · rintro ⟨hLz, hm⟩
    have key : ∀ u v, u < cnt ps → v < cnt ps → Lead ps (nmo ps u) (nmo ps u) → Rch (nx (wb ps)) u v → Lead ps (nmo ps u) (nmo ps v) := fun u v hu hv hL hr => by
      rcases hr.head with rfl | ⟨w, hw, hr'⟩
      · exact hL
      · exact (lead_num hu hv).2 ⟨w, hw, hr'⟩
    exact ⟨key x z hx hz hLx hm.2, key z x hz hx hLz hm.1⟩
  · rintro ⟨h1, h2⟩
    refine ⟨h2.trans h1, ?_, ?_⟩
    · obtain ⟨w, hw, hr⟩ := (lead_num hz hx).1 h2
      exact (Rc.one (r := fun u v => v ∈ nx (wb ps) u) hw).trans hr
    · obtain ⟨w, hw, hr⟩ := (lead_num hx hz).1 h1
      exact (Rc.one (r := fun u v => v ∈ nx (wb ps) u) hw).trans hr
abbrev fst (ps : List Pr) (k : Nat) : List Nat := firsts (inR (wb ps)) (clR (wb ps)) k
abbrev rgo (ps : List Pr) (j : Nat) : List ByteArray := ringOf (inR (wb ps)) (clR (wb ps)) (nmR (wb ps)) (cnt ps) j
theorem rings_fst (ps : List Pr) : ringsL ps = (fst ps (cnt ps)).map (rgo ps) := ringsL_eq (web_fit ps)
theorem mem_rgo {j : Nat} {b : ByteArray} : b ∈ rgo ps j ↔ ∃ z, z < cnt ps ∧ (inR (wb ps) z && clR (wb ps) z == clR (wb ps) j) = true ∧ nmo ps z = b := by
  unfold rgo ringOf
  rw [List.mem_map]
  constructor
  · rintro ⟨z, hz, rfl⟩
    rw [List.mem_filter, List.mem_range] at hz
    exact ⟨z, hz.1, hz.2, rfl⟩
  · rintro ⟨z, hz, h, rfl⟩
    exact ⟨z, List.mem_filter.2 ⟨List.mem_range.2 hz, h⟩, rfl⟩
theorem rgo_nodup (j : Nat) : (rgo ps j).Nodup := by
  unfold rgo ringOf
  refine List.pairwise_map.2 ?_
  have h := (List.nodup_range (n := cnt ps)).sublist (List.filter_sublist (p := fun z => inR (wb ps) z && clR (wb ps) z == clR (wb ps) j))
  refine List.Pairwise.imp_of_mem (fun {a b} ha hb hne => ?_) h
  rw [List.mem_filter, List.mem_range] at ha hb
  exact fun e => hne (nm_inj ha.1 hb.1 e)
theorem ring_at {i : Nat} {l : List ByteArray} (h : (ringsL ps)[i]? = some l) : ∃ j, (fst ps (cnt ps))[i]? = some j ∧ j < cnt ps ∧ inR (wb ps) j = true ∧ l = rgo ps j := by
  rw [rings_fst, List.getElem?_map] at h
  cases hj : (fst ps (cnt ps))[i]? with
  | none => rw [hj] at h; cases h
  | some j =>
    rw [hj] at h
    injection h with h
    obtain ⟨h1, h2, _⟩ := mem_firsts.1 (List.mem_of_getElem? hj)
    exact ⟨j, rfl, h1, h2, h.symm⟩
theorem ring_nodup {i : Nat} {l : List ByteArray} (h : (ringsL ps)[i]? = some l) : l.Nodup := by
  obtain ⟨j, _, _, _, rfl⟩ := ring_at h
  exact rgo_nodup j
/-- no name stands in two rings -/
theorem ring_one {i i' : Nat} {l l' : List ByteArray} {a : ByteArray} (h : (ringsL ps)[i]? = some l) (h' : (ringsL ps)[i']? = some l') (ha : a ∈ l) (ha' : a ∈ l') : i = i' := by
  obtain ⟨j, hj, hjl, hI, rfl⟩ := ring_at h
  obtain ⟨j', hj', hjl', hI', rfl⟩ := ring_at h'
  obtain ⟨z, hz, hz1, rfl⟩ := mem_rgo.1 ha
  obtain ⟨z', hz', hz1', e⟩ := mem_rgo.1 ha'
  rw [nm_inj hz' hz e] at hz1'
  rw [Bool.and_eq_true, beq_iff_eq] at hz1 hz1'
  have := firsts_inj (List.mem_of_getElem? hj) (List.mem_of_getElem? hj') (hz1.2.symm.trans hz1'.2)
  subst this
  exact nd_at (firsts_nodup _) hj hj'
/-- a ring: all that lead to one another -/
theorem ring_lead {i : Nat} {l : List ByteArray} {a : ByteArray} (h : (ringsL ps)[i]? = some l) (ha : a ∈ l) (b : ByteArray) : b ∈ l ↔ Lead ps a b ∧ Lead ps b a := by
  obtain ⟨j, hj, hjl, hI, rfl⟩ := ring_at h
  obtain ⟨x, hx, hx1, rfl⟩ := mem_rgo.1 ha
  have hx2 := Bool.and_eq_true _ _ ▸ hx1
  have hcx : clR (wb ps) x = clR (wb ps) j := by simpa using hx2.2
  rw [mem_rgo, ← hcx]
  constructor
  · rintro ⟨z, hz, hz1, rfl⟩
    exact (cl_iff hx hz hx2.1).1 hz1
  · rintro ⟨h1, h2⟩
    obtain ⟨_, z, hz, rfl⟩ := lead_in h1
    exact ⟨z, hz, (cl_iff hx hz hx2.1).2 ⟨h1, h2⟩, rfl⟩
/-- what leads to itself stands in one -/
theorem ring_ex {a : ByteArray} (h : Lead ps a a) : ∃ (i : Nat) (l : List ByteArray), (ringsL ps)[i]? = some l ∧ a ∈ l := by
  obtain ⟨⟨x, hx, rfl⟩, _⟩ := lead_in h
  have hI := (inR_iff hx).2 h
  obtain ⟨j, hj, hc⟩ := first_ex (c := clR (wb ps)) x hx hI
  obtain ⟨i, hi⟩ := List.getElem?_of_mem hj
  refine ⟨i, rgo ps j, ?_, mem_rgo.2 ⟨x, hx, ?_, rfl⟩⟩
  · rw [rings_fst, List.getElem?_map, hi]; rfl
  · rw [Bool.and_eq_true]
    exact ⟨hI, by rw [hc]; simp⟩
end
end Go.Reach

/- Plain: a walk in depth, step by step, as the program goes. -/
import Derived.Test.YthjldlgmfplngaaWr
namespace Go.Reach
structure Dfs where
  order : List Nat
  been : List Nat
  stack : List Nat
/-- a step: the top is left, or goes one line further -/
def dstep (E : Nat → List Nat) (s : Dfs) : Dfs := match s.stack.getLast? with
  | none => s
  | some x =>
    let b := (s.been[x]?).getD 0
    if (E x).length < b then { s with order := s.order ++ [x], stack := s.stack.dropLast }
    else
      let y := ((E x)[b - 1]?).getD 0
      let been1 := s.been.set x (b + 1)
      if (been1[y]?).getD 0 = 0 then { s with been := been1.set y 1, stack := s.stack ++ [y] } else { s with been := been1 }
def drun (E : Nat → List Nat) : Nat → Dfs → Dfs
  | 0, s => s
  | k + 1, s => if s.stack = [] then s else drun E k (dstep E s)
/-- how much is left -/
def phiB (E : Nat → List Nat) : Nat → List Nat → Nat
  | _, [] => 0
  | x, b :: l => ((E x).length + 2 - b) + phiB E (x + 1) l
def phi (E : Nat → List Nat) (s : Dfs) : Nat := 2 * phiB E 0 s.been + s.stack.length
theorem phiB_set (E : Nat → List Nat) : ∀ (l : List Nat) (j x b v : Nat), l[x]? = some b → phiB E j (l.set x v) + ((E (j + x)).length + 2 - b) = phiB E j l + ((E (j + x)).length + 2 - v)
  | [], j, x, b, v, h => by simp at h
  | c :: l, j, 0, b, v, h => by
    simp at h; subst h
    simp only [List.set_cons_zero, phiB, Nat.add_zero]; omega
  | c :: l, j, x + 1, b, v, h => by
    have ih := phiB_set E l (j + 1) x b v (by simpa using h)
    simp only [List.set_cons_succ, phiB]
    rw [show j + (x + 1) = j + 1 + x from by omega]
    omega
structure DOk (E : Nat → List Nat) (n : Nat) (s : Dfs) : Prop where
  len : s.been.length = n
  st : ∀ x ∈ s.stack, x < n ∧ ∃ b, s.been[x]? = some b ∧ 1 ≤ b
  le : ∀ (x b : Nat), s.been[x]? = some b → b ≤ (E x).length + 1
  nd : s.stack.Nodup
  ond : (s.order ++ s.stack).Nodup
  up : ∀ x ∈ s.order, ∃ b, s.been[x]? = some b ∧ 1 ≤ b
theorem last_mem {l : List Nat} {x : Nat} (h : l.getLast? = some x) : x ∈ l := List.mem_of_getLast? h
theorem last_split {l : List Nat} {x : Nat} (h : l.getLast? = some x) : l = l.dropLast ++ [x] := by
  obtain ⟨ys, rfl⟩ := List.getLast?_eq_some_iff.1 h
  rw [List.dropLast_concat]
/-- what a step does -/
theorem dstep_spec {E : Nat → List Nat} {n : Nat} {s : Dfs} (h : DOk E n s) (hE : ∀ x, ∀ y ∈ E x, y < n) (hs : s.stack ≠ []) :
    ∃ x b, s.stack.getLast? = some x ∧ x < n ∧ s.been[x]? = some b ∧ 1 ≤ b ∧ b ≤ (E x).length + 1 ∧
      ((E x).length < b ∧ dstep E s = { s with order := s.order ++ [x], stack := s.stack.dropLast } ∨
       (b ≤ (E x).length ∧ ∃ y c, (E x)[b - 1]? = some y ∧ y < n ∧ (s.been.set x (b + 1))[y]? = some c ∧
          (c = 0 ∧ dstep E s = { s with been := (s.been.set x (b + 1)).set y 1, stack := s.stack ++ [y] } ∨ c ≠ 0 ∧ dstep E s = { s with been := s.been.set x (b + 1) }))) := by
  obtain ⟨x, hx⟩ : ∃ x, s.stack.getLast? = some x := by
    cases hl : s.stack.getLast? with
    | none => exact absurd (List.getLast?_eq_none_iff.1 hl) hs
    | some x => exact ⟨x, rfl⟩
  obtain ⟨hxn, b, hb, hb1⟩ := h.st x (last_mem hx)
  have hle := h.le x b hb
  refine ⟨x, b, hx, hxn, hb, hb1, hle, ?_⟩
  by_cases hlt : (E x).length < b
  · left
    refine ⟨hlt, ?_⟩
    unfold dstep
    rw [hx]
    simp [hb, hlt]
  · right
    refine ⟨by omega, ?_⟩
    obtain ⟨y, hy⟩ : ∃ y, (E x)[b - 1]? = some y := ⟨_, List.getElem?_eq_getElem (by omega)⟩
    have hyn := hE x y (List.mem_of_getElem? hy)
    obtain ⟨c, hc⟩ : ∃ c, (s.been.set x (b + 1))[y]? = some c := ⟨_, List.getElem?_eq_getElem (by rw [List.length_set, h.len]; exact hyn)⟩
    refine ⟨y, c, hy, hyn, hc, ?_⟩
    by_cases h0 : c = 0
    · left
      refine ⟨h0, ?_⟩
      unfold dstep
      rw [hx]
      simp [hb, hlt, hy, hc, h0]
    · right
      refine ⟨h0, ?_⟩
      unfold dstep
      rw [hx]
      simp [hb, hlt, hy, hc, h0]
theorem set_at {l : List Nat} {x v y b : Nat} (h : (l.set x v)[y]? = some b) : (y = x ∧ b = v) ∨ (y ≠ x ∧ l[y]? = some b) := by
  by_cases e : x = y
  · subst e
    have hl := (List.getElem?_eq_some_iff.1 h).1
    rw [List.length_set] at hl
    rw [List.getElem?_set_self hl] at h
    injection h with h
    exact .inl ⟨rfl, h.symm⟩
  · rw [List.getElem?_set_ne e] at h
    exact .inr ⟨fun e' => e e'.symm, h⟩
theorem set_up {l : List Nat} {x v y b : Nat} (hv : 1 ≤ v) (h : l[y]? = some b) (hb : 1 ≤ b) : ∃ b', (l.set x v)[y]? = some b' ∧ 1 ≤ b' := by
  have hy := (List.getElem?_eq_some_iff.1 h).1
  by_cases e : x = y
  · subst e; exact ⟨v, List.getElem?_set_self hy, hv⟩
  · exact ⟨b, by rw [List.getElem?_set_ne e]; exact h, hb⟩
theorem dstep_ok {E : Nat → List Nat} {n : Nat} {s : Dfs} (h : DOk E n s) (hE : ∀ x, ∀ y ∈ E x, y < n) (hs : s.stack ≠ []) : DOk E n (dstep E s) ∧ phi E (dstep E s) < phi E s := by
  obtain ⟨x, b, hx, hxn, hb, hb1, hle, hc⟩ := dstep_spec h hE hs
  have hsp := last_split hx
  rcases hc with ⟨hlt, e⟩ | ⟨hble, y, c, hy, hyn, hc, ⟨h0, e⟩ | ⟨h0, e⟩⟩
  · rw [e]
    refine ⟨⟨h.len, fun z hz => h.st z (List.dropLast_subset _ hz), h.le, ?_, ?_, fun z hz => ?_⟩, ?_⟩
    · exact h.nd.sublist (List.dropLast_sublist _)
    · show (s.order ++ [x] ++ s.stack.dropLast).Nodup
      have h1 := h.ond
      rw [hsp] at h1
      refine (List.Perm.nodup_iff ?_).1 h1
      rw [List.append_assoc]
      exact List.Perm.append_left _ List.perm_append_comm
    · rcases List.mem_append.1 hz with hz | hz
      · exact h.up z hz
      · rw [List.mem_singleton.1 hz]; exact ⟨b, hb, hb1⟩
    · show 2 * phiB E 0 s.been + s.stack.dropLast.length < 2 * phiB E 0 s.been + s.stack.length
      have := List.length_pos_iff.2 hs
      rw [List.length_dropLast]; omega
  · rw [e]
    have hp1 := phiB_set E s.been 0 x b (b + 1) hb
    have hp2 := phiB_set E (s.been.set x (b + 1)) 0 y c 1 hc
    rw [Nat.zero_add] at hp1 hp2
    subst h0
    have hyx : y ≠ x := fun e => by
      subst e
      rcases set_at hc with ⟨_, h1⟩ | ⟨h1, _⟩
      · omega
      · exact h1 rfl
    have hy0 : s.been[y]? = some 0 := by
      rcases set_at hc with ⟨h1, _⟩ | ⟨_, h1⟩
      · exact absurd h1 hyx
      · exact h1
    have hyst : y ∉ s.stack := fun hm => by
      obtain ⟨_, b', hb', h1⟩ := h.st y hm
      rw [hy0] at hb'; injection hb' with hb'; omega
    have hyor : y ∉ s.order := fun hm => by
      obtain ⟨b', hb', h1⟩ := h.up y hm
      rw [hy0] at hb'; injection hb' with hb'; omega
    have up2 : ∀ z b', s.been[z]? = some b' → 1 ≤ b' → ∃ b'', ((s.been.set x (b + 1)).set y 1)[z]? = some b'' ∧ 1 ≤ b'' := fun z b' h1 h2 => by
      obtain ⟨b2, h3, h4⟩ := set_up (x := x) (v := b + 1) (by omega) h1 h2
      exact set_up (Nat.le_refl _) h3 h4
    refine ⟨⟨by simp [h.len], fun z hz => ?_, fun z b' hz => ?_, ?_, ?_, fun z hz => ?_⟩, ?_⟩
    · rcases List.mem_append.1 hz with hz | hz
      · obtain ⟨h1, b', h2, h3⟩ := h.st z hz
        exact ⟨h1, up2 z b' h2 h3⟩
      · rw [List.mem_singleton.1 hz]
        exact ⟨hyn, 1, List.getElem?_set_self (by rw [List.length_set, h.len]; exact hyn), Nat.le_refl _⟩
    · rcases set_at hz with ⟨h1, h2⟩ | ⟨h1, h2⟩
      · omega
      · rcases set_at h2 with ⟨h3, h4⟩ | ⟨h3, h4⟩
        · subst h3; omega
        · exact h.le z b' h4
    · rw [List.nodup_append]
      exact ⟨h.nd, by simp, fun a ha b' hb' e => hyst (by rw [List.mem_singleton.1 hb'] at e; exact e ▸ ha)⟩
    · show (s.order ++ (s.stack ++ [y])).Nodup
      rw [← List.append_assoc, List.nodup_append]
      exact ⟨h.ond, by simp, fun a ha b' hb' e => by
        rw [List.mem_singleton.1 hb'] at e
        subst e
        rcases List.mem_append.1 ha with ha | ha
        · exact hyor ha
        · exact hyst ha⟩
    · obtain ⟨b', h1, h2⟩ := h.up z hz
      exact up2 z b' h1 h2
    · show 2 * phiB E 0 ((s.been.set x (b + 1)).set y 1) + (s.stack ++ [y]).length < 2 * phiB E 0 s.been + s.stack.length
      rw [List.length_append, List.length_singleton]
      omega
  · rw [e]
    have hp1 := phiB_set E s.been 0 x b (b + 1) hb
    rw [Nat.zero_add] at hp1
    refine ⟨⟨by simp [h.len], fun z hz => ?_, fun z b' hz => ?_, h.nd, h.ond, fun z hz => ?_⟩, ?_⟩
    · obtain ⟨h1, b', h2, h3⟩ := h.st z hz
      exact ⟨h1, set_up (by omega) h2 h3⟩
    · rcases set_at hz with ⟨h1, h2⟩ | ⟨h1, h2⟩
      · subst h1; omega
      · exact h.le z b' h2
    · obtain ⟨b', h1, h2⟩ := h.up z hz
      exact set_up (by omega) h1 h2
    · show 2 * phiB E 0 (s.been.set x (b + 1)) + s.stack.length < 2 * phiB E 0 s.been + s.stack.length
      omega
/-- the end of it -/
theorem drun_end {E : Nat → List Nat} {n : Nat} (hE : ∀ x, ∀ y ∈ E x, y < n) : ∀ (k : Nat) (s : Dfs), DOk E n s → phi E s ≤ k → (drun E k s).stack = [] ∧ DOk E n (drun E k s)
  | 0, s, h, hk => by
    have : s.stack = [] := by
      have : s.stack.length = 0 := by unfold phi at hk; omega
      exact List.eq_nil_of_length_eq_zero this
    exact ⟨this, h⟩
  | k + 1, s, h, hk => by
    unfold drun
    by_cases hs : s.stack = []
    · rw [if_pos hs]; exact ⟨hs, h⟩
    · rw [if_neg hs]
      obtain ⟨h1, h2⟩ := dstep_ok h hE hs
      exact drun_end hE k _ h1 (by omega)
/-- a step less is the same end -/
theorem drun_more {E : Nat → List Nat} {n : Nat} (hE : ∀ x, ∀ y ∈ E x, y < n) : ∀ (k j : Nat) (s : Dfs), DOk E n s → phi E s ≤ k → phi E s ≤ j → drun E k s = drun E j s
  | 0, j, s, h, hk, hj => by
    have hs : s.stack = [] := List.eq_nil_of_length_eq_zero (by unfold phi at hk; omega)
    cases j with
    | zero => rfl
    | succ j => unfold drun; rw [if_pos hs]
  | k + 1, 0, s, h, hk, hj => by
    have hs : s.stack = [] := List.eq_nil_of_length_eq_zero (by unfold phi at hj; omega)
    unfold drun; rw [if_pos hs]
  | k + 1, j + 1, s, h, hk, hj => by
    unfold drun
    by_cases hs : s.stack = []
    · rw [if_pos hs, if_pos hs]
    · rw [if_neg hs, if_neg hs]
      obtain ⟨h1, h2⟩ := dstep_ok h hE hs
      exact drun_more hE k j _ h1 (by omega) (by omega)
/-- the whole of it from one number -/
def dall (E : Nat → List Nat) (s : Dfs) : Dfs := drun E (phi E s) s
theorem dall_step {E : Nat → List Nat} {n : Nat} (hE : ∀ x, ∀ y ∈ E x, y < n) {s : Dfs} (h : DOk E n s) (hs : s.stack ≠ []) : dall E s = dall E (dstep E s) := by
  obtain ⟨h1, h2⟩ := dstep_ok h hE hs
  unfold dall
  obtain ⟨k, hk⟩ : ∃ k, phi E s = k + 1 := ⟨phi E s - 1, by omega⟩
  rw [hk]
  show (if s.stack = [] then s else drun E k (dstep E s)) = _
  rw [if_neg hs]
  exact drun_more hE _ _ _ h1 (by omega) (Nat.le_refl _)
theorem dall_done {E : Nat → List Nat} {s : Dfs} (hs : s.stack = []) : dall E s = s := by
  unfold dall
  cases phi E s with
  | zero => rfl
  | succ k => unfold drun; rw [if_pos hs]
/-- one number after another -/
def dnext (E : Nat → List Nat) (s : Dfs) (x : Nat) : Dfs := if (s.been[x]?).getD 0 = 0 then dall E { s with been := s.been.set x 1, stack := [x] } else s
def leave (E : Nat → List Nat) (n : Nat) : Dfs := (List.range n).foldl (dnext E) ⟨[], List.replicate n 0, []⟩
theorem dstart_ok {E : Nat → List Nat} {n x : Nat} {s : Dfs} (h : DOk E n s) (hs : s.stack = []) (hx : s.been[x]? = some 0) : DOk E n { s with been := s.been.set x 1, stack := [x] } := by
  have hxl := (List.getElem?_eq_some_iff.1 hx).1
  have hxn : x < n := by rw [← h.len]; exact hxl
  have hor : x ∉ s.order := fun hm => by
    obtain ⟨b', hb', h1⟩ := h.up x hm
    rw [hx] at hb'; injection hb' with hb'; omega
  refine ⟨by simp [h.len], fun z hz => ?_, fun z b hz => ?_, by simp, ?_, fun z hz => ?_⟩
  · rw [List.mem_singleton.1 hz]
    exact ⟨hxn, 1, List.getElem?_set_self hxl, Nat.le_refl _⟩
  · rcases set_at hz with ⟨_, h2⟩ | ⟨_, h2⟩
    · omega
    · exact h.le z b h2
  · have h1 := h.ond
    rw [hs, List.append_nil] at h1
    show (s.order ++ [x]).Nodup
    rw [List.nodup_append]
    exact ⟨h1, by simp, fun a ha b hb e => hor (by rw [List.mem_singleton.1 hb] at e; exact e ▸ ha)⟩
  · obtain ⟨b, h1, h2⟩ := h.up z hz
    exact set_up (Nat.le_refl _) h1 h2
theorem dzero_ok (E : Nat → List Nat) (n : Nat) : DOk E n ⟨[], List.replicate n 0, []⟩ :=
  ⟨by simp, fun _ h => (by simp at h), fun x b h => (by
    have := List.mem_of_getElem? h
    rw [List.mem_replicate] at this
    omega), List.nodup_nil, List.nodup_nil, fun _ h => (by simp at h)⟩
theorem dorder_lt {E : Nat → List Nat} {n : Nat} {s : Dfs} (h : DOk E n s) : s.order.length + s.stack.length ≤ n := by
  have h1 := nodup_le h.ond (U := List.range n) fun x hx => by
    rw [List.mem_range]
    rcases List.mem_append.1 hx with hx | hx
    · obtain ⟨b, h1, _⟩ := h.up x hx
      rw [← h.len]; exact (List.getElem?_eq_some_iff.1 h1).1
    · exact (h.st x hx).1
  rwa [List.length_append, List.length_range] at h1
theorem range_foldl_succ {α : Type} (f : α → Nat → α) (a : α) (k : Nat) : (List.range (k + 1)).foldl f a = f ((List.range k).foldl f a) k := by
  rw [List.range_succ, List.foldl_append]; rfl
end Go.Reach

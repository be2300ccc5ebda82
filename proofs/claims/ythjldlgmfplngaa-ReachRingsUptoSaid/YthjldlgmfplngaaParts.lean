/- Plain: the parts and the rings, step by step, as the program goes; and what of it lies in memory. -/
import Derived.Test.YthjldlgmfplngaaLeft
namespace Go.Reach
open Go.Proofs.Ythjldlgmfplngaa
theorem puts_map {α β : Type} [DecidableEq α] [DecidableEq β] {g : α → β} (hg : ∀ a b, g a = g b → a = b) : ∀ (ys l : List α), puts (l.map g) (ys.map g) = (puts l ys).map g
  | [], _ => rfl
  | y :: ys, l => by
    have h1 : put1 (l.map g) (g y) = (put1 l y).map g := by
      unfold put1
      by_cases h : y ∈ l
      · rw [if_pos h, if_pos (List.mem_map.2 ⟨y, h, rfl⟩)]
      · rw [if_neg h, if_neg (fun h' => by obtain ⟨z, hz, e⟩ := List.mem_map.1 h'; exact h (hg _ _ e ▸ hz))]
        simp
    rw [List.map_cons, puts_cons, puts_cons, h1, puts_map hg ys]
theorem cl_map {α β : Type} [DecidableEq α] [DecidableEq β] {g : α → β} (hg : ∀ a b, g a = g b → a = b) {f : α → List α} {f' : β → List β} (hf : ∀ a, f' (g a) = (f a).map g) (l : List α) : ∀ k, cl f' (l.map g) k = (cl f l k).map g
  | 0 => rfl
  | k + 1 => by
    have ih := cl_map hg hf l k
    by_cases h : k < (cl f l k).length
    · rw [cl_step (x := g (cl f l k)[k]) (by rw [ih]; simp [h]), ih, hf, puts_map hg, cl_step (List.getElem?_eq_getElem h)]
    · rw [cl_stop (by rw [ih]; simp; omega), ih, cl_stop (by omega)]
theorem dnext_ok {E : Nat → List Nat} {n x : Nat} {s : Dfs} (hE : ∀ x, ∀ y ∈ E x, y < n) (h : DOk E n s) (hs : s.stack = []) (hx : x < n) : DOk E n (dnext E s x) ∧ (dnext E s x).stack = [] := by
  unfold dnext
  split
  · rename_i h0
    obtain ⟨b, hb⟩ : ∃ b, s.been[x]? = some b := ⟨_, List.getElem?_eq_getElem (by rw [h.len]; exact hx)⟩
    rw [hb] at h0
    have : b = 0 := h0
    subst this
    obtain ⟨h1, h2⟩ := drun_end hE _ _ (dstart_ok h hs hb) (Nat.le_refl _)
    exact ⟨h2, h1⟩
  · exact ⟨h, hs⟩
theorem leave_ok {E : Nat → List Nat} {n : Nat} (hE : ∀ x, ∀ y ∈ E x, y < n) : DOk E n (leave E n) ∧ (leave E n).stack = [] := by
  have key : ∀ k, k ≤ n → DOk E n ((List.range k).foldl (dnext E) ⟨[], List.replicate n 0, []⟩) ∧ ((List.range k).foldl (dnext E) ⟨[], List.replicate n 0, []⟩).stack = [] := by
    intro k
    induction k with
    | zero => exact fun _ => ⟨dzero_ok E n, rfl⟩
    | succ k ih =>
      intro hk
      rw [range_foldl_succ]
      obtain ⟨h1, h2⟩ := ih (by omega)
      exact dnext_ok hE h1 h2 (by omega)
  exact key n (Nat.le_refl _)
theorem leave_lt {E : Nat → List Nat} {n x : Nat} (hE : ∀ x, ∀ y ∈ E x, y < n) (hx : x ∈ (leave E n).order) : x < n := by
  obtain ⟨b, h1, _⟩ := (leave_ok hE).1.up x hx
  have := (List.getElem?_eq_some_iff.1 h1).1
  rwa [(leave_ok hE).1.len] at this
theorem leave_len {E : Nat → List Nat} {n : Nat} (hE : ∀ x, ∀ y ∈ E x, y < n) : (leave E n).order.length ≤ n := by
  have := dorder_lt (leave_ok hE).1
  omega
structure Pt where
  part : List Nat
  size : List Nat
def fill (c : Nat) (L part : List Nat) : List Nat := L.foldl (fun p y => p.set y c) part
/-- all that leads to a number and is free yet -/
def fresh (W : Wb ByteArray) (part : List Nat) (x n : Nat) : List Nat := cl (freeB W part) [x] n
theorem fresh_lt {W : Wb ByteArray} {part : List Nat} {x n : Nat} (hok : W.Ok) (hn : W.ns.length = n) (hx : x < n) : ∀ y ∈ fresh W part x n, y < n := by
  intro y hy
  have := cl_in (f := freeB W part) (l0 := [x]) (U := List.range n) (fun z hz => by rw [List.mem_singleton.1 hz]; exact List.mem_range.2 hx) (fun z _ y hy => by
    have := hok.rng _ y (List.mem_filter.1 hy).1
    rw [hn] at this
    exact List.mem_range.2 this) n y hy
  exact List.mem_range.1 this
def pstep (W : Wb ByteArray) (n : Nat) (s : Pt) (x : Nat) : Pt :=
  if (s.part[x]?).getD 0 = 0 then ⟨fill s.size.length (fresh W s.part x n) s.part, s.size ++ [(fresh W s.part x n).length]⟩ else s
def parts (W : Wb ByteArray) (n : Nat) : Pt := (leave (fun x => W.E (true, x)) n).order.reverse.foldl (pstep W n) ⟨List.replicate n 0, [0]⟩
structure Rn where
  place : List Nat
  rings : List (List ByteArray)
def solo (W : Wb ByteArray) (s : Pt) (x : Nat) : Prop := (s.size[(s.part[x]?).getD 0]?).getD 0 < 2 ∧ x ∉ W.E (true, x)
instance (W : Wb ByteArray) (s : Pt) (x : Nat) : Decidable (solo W s x) := by unfold solo; infer_instance
def ropen (r : Rn) (q : Nat) : Rn := if (r.place[q]?).getD 0 = 0 then ⟨r.place.set q (r.rings.length + 1), r.rings ++ [[]]⟩ else r
def rput (r : Rn) (q : Nat) (s : ByteArray) : Rn := { r with rings := r.rings.set ((r.place[q]?).getD 0 - 1) (((r.rings[(r.place[q]?).getD 0 - 1]?).getD []) ++ [s]) }
def rstep (W : Wb ByteArray) (s : Pt) (r : Rn) (x : Nat) : Rn :=
  if solo W s x then r else rput (ropen r ((s.part[x]?).getD 0)) ((s.part[x]?).getD 0) ((W.ns[x]?).getD ByteArray.empty)
def rnAll (W : Wb ByteArray) (s : Pt) (n : Nat) : Rn := (List.range n).foldl (rstep W s) ⟨List.replicate s.size.length 0, []⟩
def ringsL (ps : List Pr) : List (List ByteArray) := (rnAll (web (prs ps)) (parts (web (prs ps)) (web (prs ps)).ns.length) (web (prs ps)).ns.length).rings
theorem fill_len (c : Nat) : ∀ (L part : List Nat), (fill c L part).length = part.length
  | [], _ => rfl
  | y :: L, part => by show (fill c L (part.set y c)).length = _; rw [fill_len c L]; simp
theorem mem_set' {l : List Nat} {i v x : Nat} (h : x ∈ l.set i v) : x = v ∨ x ∈ l := by
  rcases List.mem_or_eq_of_mem_set h with h | h
  · exact .inr h
  · exact .inl h
theorem mem_fill {c q : Nat} : ∀ {L part : List Nat}, q ∈ fill c L part → q = c ∨ q ∈ part
  | [], _, h => .inr h
  | y :: L, part, h => by
    rcases mem_fill (L := L) h with h | h
    · exact .inl h
    · exact mem_set' h
theorem fill_snoc (c : Nat) (L part : List Nat) (y : Nat) : fill c (L ++ [y]) part = (fill c L part).set y c := by simp [fill]
structure PtOk (n : Nat) (s : Pt) : Prop where
  len : s.part.length = n
  lt : ∀ q ∈ s.part, q < s.size.length
  pos : 1 ≤ s.size.length
theorem pstep_ok {W : Wb ByteArray} {n : Nat} {s : Pt} (h : PtOk n s) (x : Nat) : PtOk n (pstep W n s x) ∧ (pstep W n s x).size.length ≤ s.size.length + 1 := by
  unfold pstep
  split
  · refine ⟨⟨by rw [fill_len]; exact h.len, fun q hq => ?_, by simp⟩, by simp⟩
    rcases mem_fill hq with e | hq
    · simp; omega
    · have := h.lt q hq
      simp; omega
  · exact ⟨h, by omega⟩
theorem pzero_ok (n : Nat) : PtOk n ⟨List.replicate n 0, [0]⟩ := ⟨by simp, fun q hq => by rw [(List.mem_replicate.1 hq).2]; simp, by simp⟩
theorem foldl_pt {W : Wb ByteArray} {n : Nat} : ∀ (l : List Nat) (s : Pt), PtOk n s → PtOk n (l.foldl (pstep W n) s) ∧ (l.foldl (pstep W n) s).size.length ≤ s.size.length + l.length
  | [], s, h => ⟨h, by simp⟩
  | x :: l, s, h => by
    obtain ⟨h1, h2⟩ := pstep_ok (W := W) h x
    obtain ⟨h3, h4⟩ := foldl_pt (W := W) l _ h1
    exact ⟨h3, by rw [List.foldl_cons, List.length_cons]; omega⟩
structure RnOk (m j : Nat) (r : Rn) : Prop where
  len : r.place.length = m
  lt : ∀ p ∈ r.place, p ≤ r.rings.length
  cnt : r.rings.length ≤ j
  row : ∀ l ∈ r.rings, l.length ≤ j
theorem RnOk.more {m j j' : Nat} {r : Rn} (h : RnOk m j r) (hj : j ≤ j') : RnOk m j' r := ⟨h.len, h.lt, Nat.le_trans h.cnt hj, fun l hl => Nat.le_trans (h.row l hl) hj⟩
theorem ropen_ok {m j q : Nat} {r : Rn} (h : RnOk m j r) (hq : q < m) : RnOk m (j + 1) (ropen r q) ∧ 1 ≤ ((ropen r q).place[q]?).getD 0 ∧ (∀ l ∈ (ropen r q).rings, l.length ≤ j) := by
  unfold ropen
  split
  · refine ⟨⟨by simp [h.len], fun p hp => ?_, by have := h.cnt; simp; omega, fun l hl => ?_⟩, ?_, fun l hl => ?_⟩
    · rcases mem_set' hp with e | hp
      · simp; omega
      · have := h.lt p hp; simp; omega
    · rcases List.mem_append.1 hl with hl | hl
      · have := h.row l hl; omega
      · rw [List.mem_singleton.1 hl]; simp
    · show 1 ≤ ((r.place.set q (r.rings.length + 1))[q]?).getD 0
      rw [List.getElem?_set_self (by rw [h.len]; exact hq)]
      simp
    · rcases List.mem_append.1 hl with hl | hl
      · exact h.row l hl
      · rw [List.mem_singleton.1 hl]; simp
  · exact ⟨h.more (by omega), by omega, h.row⟩
theorem rput_ok {m j q : Nat} {r : Rn} (h : RnOk m (j + 1) r) (hr : ∀ l ∈ r.rings, l.length ≤ j) (s : ByteArray) : RnOk m (j + 1) (rput r q s) := by
  refine ⟨h.len, fun p hp => by have := h.lt p hp; simp [rput]; omega, by have := h.cnt; simp [rput]; omega, fun l hl => ?_⟩
  rcases List.mem_or_eq_of_mem_set hl with hl | hl
  · exact h.row l hl
  · subst hl
    rw [List.length_append, List.length_singleton]
    cases hc : r.rings[(r.place[q]?).getD 0 - 1]? with
    | none => simp
    | some l => simpa using hr l (List.mem_of_getElem? hc)
theorem rstep_ok {W : Wb ByteArray} {s : Pt} {j x : Nat} {r : Rn} (h : RnOk s.size.length j r) (hq : (s.part[x]?).getD 0 < s.size.length) : RnOk s.size.length (j + 1) (rstep W s r x) := by
  unfold rstep
  split
  · exact h.more (by omega)
  · obtain ⟨h1, _, h3⟩ := ropen_ok h hq
    exact rput_ok h1 h3 _
end Go.Reach
namespace Go.Mm
open Go.RowKit
/-- rows of rows, each in memory of its own -/
structure RwB (base : Nat) (v : Value) (m : Nat) (gv : List Value) (ls : List (List Value)) (w : World) : Prop where
  own : w.ownsRow base 33 1 v m gv
  fam : Fam base 9 w gv ls
section
variable {base m : Nat} {v u : Value} {gv : List Value} {ls : List (List Value)} {w wa w' : World} {T : Nat → Prop}
theorem RwB.fr (h : RwB base v m gv ls w) (hf : Fr T w w') (h1 : ∀ b, v.ownBlock = some b → ¬ T b) (h2 : ∀ u ∈ gv, ∀ b, u.ownBlock = some b → ¬ T b) : RwB base v m gv ls w' := ⟨hf.own h.own h1, h.fam.fr hf h2⟩
theorem RwB.frn (h : RwB base v m gv ls w) (hf : Fr (fun _ => False) w w') : RwB base v m gv ls w' := h.fr hf (fun _ _ h => h) fun _ _ _ _ h => h
theorem Fam.at (h : Fam base 9 w gv ls) {u : Value} (hu : u ∈ gv) : ∃ xs, w.ownsRow base 9 1 u xs.length xs := by
  obtain ⟨i, hi⟩ := List.getElem?_of_mem hu
  have hlt := (List.getElem?_eq_some_iff.1 hi).1
  exact ⟨_, h.own i u _ hi (List.getElem?_eq_getElem (by rw [← h.len]; exact hlt))⟩
theorem RwB.frb (h : RwB base v m gv ls w) {g t : Nat} {cs : Array Value} (hf : Fr (· = g) w w') (hb : Blk w g t cs) (h33 : t ≠ 33) (h9 : t ≠ 9) : RwB base v m gv ls w' :=
  h.fr hf (fun b hb' (e : b = g) => own_ne h.own hb h33 (e ▸ hb')) fun u hu b hb' (e : b = g) => by
    obtain ⟨xs, ho⟩ := h.fam.at hu
    exact own_ne ho hb h9 (e ▸ hb')
theorem RwB.open (h : RwB base v m gv ls w) (o : wa.ownsRow base 33 1 u (m + 1) (gv ++ [.slice none 0 0])) (gr : w.grownBy wa v.ownBlock) : RwB base u (m + 1) (gv ++ [.slice none 0 0]) (ls ++ [[]]) wa := by
  refine ⟨o, ?_⟩
  have hf := Fr.grown gr
  have := h.fam.fr hf fun u hu b hb e => by
    obtain ⟨xs, ho⟩ := h.fam.at hu
    exact own_own_ne ho h.own (by decide) hb e
  exact this.snoc (Below.refl _ _) (v := .slice none 0 0) (xs := []) ⟨rfl, .inl ⟨rfl, rfl⟩⟩
theorem RwB.push {g c i : Nat} {gi s : Value} {l : List Value} (h : RwB base (.slice (some ⟨g, 0, none⟩) m c) m gv ls w) (hg : gv[i]? = some gi) (hl : ls[i]? = some l)
    (o : wa.ownsRow base 9 1 u (l.length + 1) (l ++ [s])) (gr : w.grownBy wa gi.ownBlock) (k4 : ∀ k, u.ownBlock = some k → gi.ownBlock = some k ∨ w.heap.size ≤ k) :
    RwB base (.slice (some ⟨g, 0, none⟩) m c) m (gv.set i u) (ls.set i (l ++ [s])) (wa.setCell ⟨g, i, none⟩ u) ∧ Fr (fun k => gi.ownBlock = some k ∨ k = g) w (wa.setCell ⟨g, i, none⟩ u) := by
  have fa : Fr (fun k => gi.ownBlock = some k) w wa := Fr.grown gr
  have fs := Fr.setCell wa ⟨g, i, none⟩ u
  have hgi := h.fam.own i gi l hg hl
  have con := fa.own h.own fun b hb e => own_own_ne h.own hgi (by decide) hb e
  have gb : (Value.slice (some ⟨g, 0, none⟩) m c).ownBlock = some g := rfl
  refine ⟨⟨own_set con i u, ⟨by simp [h.fam.len], fun j v xs hv hx => ?_, fun j j' v v' b hne hv hv' hb hb' => ?_, by have := h.fam.low; have := fa.size; have := fs.size; omega⟩⟩, ?_⟩
  · by_cases e : i = j
    · subst e
      rw [List.getElem?_set_self (by have := (List.getElem?_eq_some_iff.1 hv).1; simpa using this)] at hv
      rw [List.getElem?_set_self (by have := (List.getElem?_eq_some_iff.1 hx).1; simpa using this)] at hx
      injection hv with hv
      injection hx with hx
      subst hv hx
      rw [List.length_append, List.length_singleton]
      exact fs.own o fun b hb (e : b = g) => own_own_ne o con (by decide) hb (e ▸ gb)
    · rw [List.getElem?_set_ne e] at hv hx
      have o1 := h.fam.own j v xs hv hx
      have o2 := fa.own o1 fun b hb e' => h.fam.dis j i v gi b (Ne.symm e) hv hg hb e'
      exact fs.own o2 fun b hb (e : b = g) => own_own_ne o2 con (by decide) hb (e ▸ gb)
  · have key : ∀ (k : Nat) (z : Value), (gv.set i u)[k]? = some z → (k = i ∧ z = u) ∨ (k ≠ i ∧ gv[k]? = some z) := by
      intro k z hz
      by_cases e : i = k
      · subst e
        rw [List.getElem?_set_self (by have := (List.getElem?_eq_some_iff.1 hz).1; simpa using this)] at hz
        injection hz with hz
        exact .inl ⟨rfl, hz.symm⟩
      · rw [List.getElem?_set_ne e] at hz
        exact .inr ⟨Ne.symm e, hz⟩
    have lt : ∀ (k : Nat) (z : Value), gv[k]? = some z → ∀ b, z.ownBlock = some b → b < w.heap.size := fun k z hz b hb => (h.fam.blk z (List.mem_of_getElem? hz) b hb).2
    rcases key j v hv with ⟨rfl, rfl⟩ | ⟨hj, q1⟩ <;> rcases key j' v' hv' with ⟨rfl, rfl⟩ | ⟨hj', q2⟩
    · omega
    · rcases k4 b hb with e | e
      · exact h.fam.dis j j' gi v' b hne hg q2 e hb'
      · have := lt j' v' q2 b hb'; omega
    · rcases k4 b hb' with e | e
      · exact h.fam.dis j j' v gi b hne q1 hg hb e
      · have := lt j v q1 b hb; omega
    · exact h.fam.dis j j' v v' b hne q1 q2 hb hb'
  · exact (fa.mono fun _ e => .inl e).trans fs fun _ _ e => .inr e
end
end Go.Mm

/- Memory in walks, over any program: a slice that is read as a list of things, each of so many cells; blocks known whole; what may have turned between two worlds; append. -/
import Derived.WalkKit
import Derived.WalkSpells
import Derived.ProofKit
import Derived.OpenShut
import Derived.SizedLaws
import Derived.Laws.Cover2
import Derived.Maps.AppendAt
import Derived.Deep.Slices
import Derived.Deep.Draws
import Derived.OneCell
namespace Go.Mm
open Go.RowKit Go.ChangeShapes Go.WideShapes

theorem hid {p : Prop} (h : p) : Hid p := h

/-! ### addresses -/
theorem add_block (a : Addr) (n : Nat) : (a.add n).block = a.block := by unfold Addr.add; split <;> rfl
theorem add_add (a : Addr) (i j : Nat) : (a.add i).add j = a.add (i + j) := Go.Deep.add_add a i j
theorem add_plain (g j : Nat) : (⟨g, 0, none⟩ : Addr).add j = ⟨g, j, none⟩ := by unfold Addr.add; split <;> simp_all

/-! ### a slice's cells, read as a list of values -/
def Rd (w : World) (A : Option Addr) (n sz : Nat) (xs : List Value) : Prop :=
  xs.length = n * sz ∧ (0 < n → ∃ ad, A = some ad ∧ ad.block < w.heap.size ∧ ∀ j u, xs[j]? = some u → w.cell? (ad.add j) = some u)

section
variable {w w' : World} {A : Option Addr} {n sz : Nat} {xs : List Value}
theorem Rd.nil (w : World) (A : Option Addr) (sz : Nat) : Rd w A 0 sz [] := ⟨by simp, fun h => absurd h (by omega)⟩
theorem Rd.keep (h : Rd w A n sz xs) (hs : w.heap.size ≤ w'.heap.size) (hk : ∀ ad, A = some ad → ad.block < w.heap.size → w'.heap[ad.block]? = w.heap[ad.block]?) : Rd w' A n sz xs :=
  ⟨h.1, fun hn => by
    obtain ⟨ad, rfl, hb, hc⟩ := h.2 hn
    exact ⟨ad, rfl, by omega, fun j u hu => (World.cell?_of_block (by rw [add_block]; exact hk ad rfl hb)).trans (hc j u hu)⟩⟩
theorem Rd.below (h : Rd w A n sz xs) (hb : Below w.heap.size w w') : Rd w' A n sz xs := h.keep hb.size fun _ _ hl => hb.block _ hl
theorem Rd.alloc (h : Rd w A n sz xs) (o : Obj) : Rd (w.alloc o) A n sz xs := h.below ((Below.refl _ _).alloc (Nat.le_refl _) o)
theorem Rd.of_own {base : Nat} {e : TypeId} {c : Nat} (h : w.ownsRow base e sz (.slice A n c) n xs) : Rd w A n sz xs := by
  refine ⟨h.1, fun hn => ?_⟩
  rcases h.2 with ⟨_, h0⟩ | ⟨g, cap, cur, hv, hb, hg, _⟩
  · omega
  · have hA : A = some ⟨g, 0, none⟩ := by injection hv
    subst hA
    exact ⟨_, rfl, (Array.getElem?_eq_some_iff.1 hg).1, h.cells (g := g) rfl⟩
theorem Rd.box (w : World) (cs : Array Value) (e : TypeId) (hs : cs.size = sz) : Rd (w.alloc (.cells cs e)) (some ⟨w.heap.size, 0, none⟩) 1 sz cs.toList := by
  refine ⟨by simp [hs], fun _ => ⟨_, rfl, by simp, fun j u hu => ?_⟩⟩
  rw [add_plain, cell_of_row (w.alloc (.cells cs e)) w.heap.size j cs e (0, 0) (heap_alloc_new w _)]
  simpa using hu
end

/-! ### what a slice argument gives -/
structure Sl {α : Type} (w : World) (sz bytes : Nat) (f : α → List Value) (good : α → Prop) (A : Option Addr) (n c : Nat) (xs : List α) : Prop where
  len : xs.length = n
  cap : n ≤ c
  max : c ≤ maxLen
  room : n * bytes ≤ 140737488351232
  good : ∀ x ∈ xs, good x
  nil : A = none → n = 0 ∧ c = 0
  rd : Rd w A n sz (xs.flatMap f)

theorem exists_map {α β : Type} (f : α → β) (good : α → Prop) : ∀ (l : List β), (∀ y ∈ l, ∃ x, f x = y ∧ good x) → ∃ xs : List α, xs.map f = l ∧ ∀ x ∈ xs, good x
  | [], _ => ⟨[], rfl, fun _ h => by cases h⟩
  | y :: l, h => by
    obtain ⟨x, hx, gx⟩ := h y List.mem_cons_self
    obtain ⟨xs, h1, h2⟩ := exists_map f good l fun z hz => h z (List.mem_cons_of_mem _ hz)
    exact ⟨x :: xs, by rw [List.map_cons, hx, h1], fun z hz => by
      rcases List.mem_cons.1 hz with rfl | hz
      · exact gx
      · exact h2 z hz⟩

theorem flatten_at {sz : Nat} (L : List (List Value)) (hl : ∀ l ∈ L, l.length = sz) : ∀ (i j : Nat) (l : List Value) (u : Value), L[i]? = some l → l[j]? = some u → L.flatten[i * sz + j]? = some u := by
  induction L with
  | nil => intro i j l u h; simp at h
  | cons a L ih =>
    intro i j l u h hu
    have ha := hl a List.mem_cons_self
    cases i with
    | zero =>
      simp only [List.getElem?_cons_zero, Option.some.injEq] at h
      subst h
      have hj : j < a.length := (List.getElem?_eq_some_iff.1 hu).1
      rw [Nat.zero_mul, Nat.zero_add, List.flatten_cons, List.getElem?_append_left hj, hu]
    | succ i =>
      rw [List.getElem?_cons_succ] at h
      rw [List.flatten_cons, List.getElem?_append_right (by rw [ha, Nat.add_mul]; omega), ha, show (i + 1) * sz + j - sz = i * sz + j from by rw [Nat.add_mul]; omega]
      exact ih (fun l hl' => hl l (List.mem_cons_of_mem _ hl')) i j l u h hu

theorem length_flatten_of {sz : Nat} : ∀ (L : List (List Value)), (∀ l ∈ L, l.length = sz) → L.flatten.length = L.length * sz
  | [], _ => by simp
  | a :: L, hl => by
    rw [List.flatten_cons, List.length_append, length_flatten_of L fun l h => hl l (List.mem_cons_of_mem _ h), hl a List.mem_cons_self, List.length_cons, Nat.add_mul]; omega
theorem at_flatten {sz : Nat} (hsz : 0 < sz) (L : List (List Value)) (hl : ∀ l ∈ L, l.length = sz) (k : Nat) (u : Value) (h : L.flatten[k]? = some u) : ∃ l, L[k / sz]? = some l ∧ l[k % sz]? = some u := by
  have hlen := length_flatten_of L hl
  have hk : k < L.length * sz := by rw [← hlen]; exact (List.getElem?_eq_some_iff.1 h).1
  have hd : k / sz < L.length := Nat.div_lt_of_lt_mul (by rw [Nat.mul_comm]; exact hk)
  refine ⟨L[k / sz], List.getElem?_eq_getElem hd, ?_⟩
  have hm : k % sz < L[k / sz].length := by rw [hl _ (List.getElem_mem hd)]; exact Nat.mod_lt _ hsz
  have := flatten_at L hl (k / sz) (k % sz) L[k / sz] L[k / sz][k % sz] (List.getElem?_eq_getElem hd) (List.getElem?_eq_getElem hm)
  rw [show k / sz * sz + k % sz = k from by rw [Nat.mul_comm]; exact Nat.div_add_mod k sz, h] at this
  rw [List.getElem?_eq_getElem hm]
  exact this.symm

theorem flatMap_one {α : Type} (f : α → Value) (xs : List α) : xs.flatMap (fun x => [f x]) = xs.map f := by
  induction xs with
  | nil => rfl
  | cons x xs ih => rw [List.flatMap_cons, ih]; rfl

section
variable {H : Type} {enc : TypeId × Value → H} {P : Program} {w : World}
/-- THE OPENER: a slice argument whose elements read as things x, each of the cells f x. -/
theorem open_sl {α : Type} (f : α → List Value) (good : α → Prop) {t e : TypeId} {sz bytes b0 : Nat} {spare : Nat → Bool} {held : Bool} {v : Value} {d : DataW H} {ps : List MemPlace} {ts : List TypeId} {ds : List (DataW H)} {j : Nat}
    (ht : P.underlying t = some (.slice e)) (hc : P.cellsOf e = sz) (hsz : 0 < sz) (hB : P.bytesOf e = bytes)
    (hE : ∀ n cs x, DataW.trod enc P w 0 spare held n e cs = some x → ∃ y, f y = cs ∧ good y)
    (hval : Value.okWide P w .any b0 t v) (hd : DataW.Trod enc P w 0 spare held t v d ps)
    (hz : (DataW.weightsEach P ts ds).all (· ≤ reachBytes) = true) (hj : ts[j]? = some t) (hj' : ds[j]? = some d) :
    ∃ (A : Option Addr) (n c : Nat) (xs : List α), v = .slice A n c ∧ Sl w sz bytes f good A n c xs := by
  obtain ⟨A, len, cap, rfl⟩ := okWide_slice ht hval
  obtain ⟨fuel, hf⟩ := hd
  have hlt := DataW.trod_lt fuel t _ _ hf
  rcases Go.Deep.open_slice ht hf with ⟨hcs, _⟩ | ⟨a, l, c, m, n, D, Pl, hcs, _, hlc, hcm, hm, hx, hel⟩
  · simp [Value.cells] at hcs
    obtain ⟨rfl, rfl, rfl⟩ := hcs
    exact ⟨none, 0, 0, [], rfl, rfl, Nat.le_refl _, Nat.zero_le _, by simp, (fun _ h => by cases h), fun _ => ⟨rfl, rfl⟩, Rd.nil _ _ _⟩
  · simp [Value.cells] at hcs
    obtain ⟨rfl, rfl, rfl⟩ := hcs
    have hlm : len ≤ m := by rw [hm]; split <;> omega
    simp only [Prod.mk.injEq] at hx
    obtain ⟨rfl, rfl⟩ := hx
    have hall : ∀ i, i < len → ∃ y, w.cells? 0 (a.add (i * P.cellsOf e)) (P.cellsOf e) = some (f y) ∧ good y := by
      intro i hi
      obtain ⟨cs', h1, h2⟩ := hel i (by omega)
      obtain ⟨y, rfl, hy⟩ := hE _ _ _ h2
      exact ⟨y, h1, hy⟩
    have hex : ∃ xs : List α, xs.length = len ∧ (∀ x ∈ xs, good x) ∧ ∀ i x, xs[i]? = some x → w.cells? 0 (a.add (i * P.cellsOf e)) (P.cellsOf e) = some (f x) := by
      clear hel hf hlt hlm hj' hz hj hval
      have key : ∀ k, k ≤ len → ∃ xs : List α, xs.length = k ∧ (∀ x ∈ xs, good x) ∧ ∀ i x, xs[i]? = some x → w.cells? 0 (a.add (i * P.cellsOf e)) (P.cellsOf e) = some (f x) := by
        intro k
        induction k with
        | zero => exact fun _ => ⟨[], rfl, (fun _ h => by cases h), (fun i x h => by simp at h)⟩
        | succ k ih =>
          intro hk
          obtain ⟨xs, h1, h2, h3⟩ := ih (by omega)
          obtain ⟨y, hy1, hy2⟩ := hall k (by omega)
          refine ⟨xs ++ [y], by simp [h1], fun x hx => ?_, fun i x hi => ?_⟩
          · rcases List.mem_append.1 hx with hx | hx
            · exact h2 x hx
            · rw [List.mem_singleton.1 hx]; exact hy2
          · by_cases hik : i < k
            · rw [List.getElem?_append_left (by omega)] at hi; exact h3 i x hi
            · rw [List.getElem?_append_right (by omega), h1] at hi
              have : i = k := by
                have := (List.getElem?_eq_some_iff.1 hi).1
                simp at this; omega
              subst this
              simp at hi; subst hi; exact hy1
      exact key len (Nat.le_refl _)
    obtain ⟨xs, h1, h2, h3⟩ := hex
    have hw := sized_slice hz hj hj' ht
    rw [hB] at hw
    simp only [List.length_map, List.length_range] at hw
    have hcs : ∀ i x, xs[i]? = some x → (f x).length = sz ∧ ∀ j u, (f x)[j]? = some u → w.cell? (a.add (i * sz + j)) = some u := by
      intro i x hi
      obtain ⟨_, h4, h5⟩ := World.cells?_some (h3 i x hi)
      rw [hc] at h4
      refine ⟨h4, fun j u hu => ?_⟩
      have hj : j < sz := by rw [← h4]; exact (List.getElem?_eq_some_iff.1 hu).1
      have := h5 j (by rw [hc]; exact hj)
      rw [hc, add_add] at this
      rw [this, hu]
    have hfl : ∀ l ∈ xs.map f, l.length = sz := by
      intro l hl
      obtain ⟨x, hx, rfl⟩ := List.mem_map.1 hl
      obtain ⟨i, hi⟩ := List.getElem?_of_mem hx
      exact (hcs i x hi).1
    refine ⟨some a, len, cap, xs, rfl, h1, hlc, hcm, Nat.le_trans (Nat.mul_le_mul_right _ (by omega)) hw, h2, (fun h => by cases h), ?_, fun hn => ⟨a, rfl, ?_, fun k u hu => ?_⟩⟩
    · rw [List.flatMap_def, length_flatten_of _ hfl, List.length_map, h1]
    · have : MemPlace.cell a.block a.off ∈ MemPlace.row a (m * P.cellsOf e) ++ (List.range m).flatMap Pl := by
        refine List.mem_append_left _ ?_
        have h0 : 0 < m * P.cellsOf e := Nat.mul_pos (by omega) (by omega)
        simp only [MemPlace.row, List.mem_map, List.mem_range]
        exact ⟨0, h0, by simp⟩
      exact hlt _ this
    · rw [List.flatMap_def] at hu
      obtain ⟨l, e1, e2⟩ := at_flatten hsz _ hfl k u hu
      rw [List.getElem?_map] at e1
      obtain ⟨x, hx, rfl⟩ := Option.map_eq_some_iff.1 e1
      have := (hcs _ x hx).2 _ u e2
      rwa [show k / sz * sz + k % sz = k from by rw [Nat.mul_comm]; exact Nat.div_add_mod k sz] at this
end

/-! ### append: onto a row of the call's own, from whatever is read -/
section
variable {P : Program} {ops : Array Oper} {rest : List Oper} {o : Oper} {a : Act} {Q : Exit → Act → World → Prop}
/-- 'append(v, ys...)' -/
theorem wp_app {w0 W : World} (base : Nat) (hgd : o.guard = none) (s x : Operand) (t e : TypeId) (z : Value) (size bytes : Nat)
    (ho : o.op = .call { callee := .builtin .append, args := #[s, x], argTypes := #[t, t] })
    (ht : P.underlying t = some (.slice e)) (hinfo : (P.info? e).map (fun i => (i.zero, i.size, i.bytes)) = some (some z, size, bytes)) (hzs : z.cells.size = size) (hsz : 0 < size) (hb0 : 0 < bytes)
    (v : Value) (n : Nat) (xs : List Value) (A : Option Addr) (m c : Nat) (news : List Value) (hs : a.eval s = v) (hx : a.eval x = .slice A m c)
    (HR : Rd W A m size news) (h1 : ∀ u ∈ news, u.oneCell' = true)
    (HO : W.ownsRow base e size v n xs) (HB : Below base w0 W) (hbase : base ≤ W.heap.size) (hl : (n + m) * bytes ≤ 140737488355328)
    (h : ∀ v1 w1, w1.ownsRow base e size v1 (n + m) (xs ++ news) → Below base w0 w1 → W.grownBy w1 v.ownBlock → (v1.ownBlock = v.ownBlock ∨ ∃ b, v1.ownBlock = some b ∧ W.heap.size ≤ b) → wpList P ops Q rest (a.put o.dst v1) w1) :
    wpList P ops Q (o :: rest) a W := by
  obtain ⟨i0, hi, hzz⟩ := Option.map_eq_some_iff.1 hinfo
  simp only [Prod.mk.injEq] at hzz
  obtain ⟨hz0, hz1, hz2⟩ := hzz
  have hlen : n + m ≤ 140737488355328 := Nat.le_trans (Nat.le_mul_of_pos_right _ hb0) hl
  have hrun : ∃ v1 w1, (Builtin.append_ #[t, t] o.type #[v, .slice A m c]).run P W = .ok v1 w1 ∧ w1.ownsRow base e size v1 (n + m) (xs ++ news) ∧ W.grownBy w1 v.ownBlock ∧ (v1.ownBlock = v.ownBlock ∨ v1.ownBlock = some W.heap.size) := by
    rcases A with _ | ad
    · have h0 : m = 0 := by
        rcases Nat.eq_zero_or_pos m with h0 | h0
        · exact h0
        · obtain ⟨ad, h, _⟩ := HR.2 h0
          cases h
      subst h0
      obtain rfl : news = [] := List.eq_nil_of_length_eq_zero (by rw [HR.1, Nat.zero_mul])
      refine ⟨v, W, ?_, by simpa using HO, World.grownBy.refl W _, .inl rfl⟩
      rcases HO.2 with ⟨rfl, hn⟩ | ⟨g, cap, cur, rfl, _, _, hnc, _⟩
      · simp [Builtin.append_, run_underlying ht, sizeOf, typeInfo, hi, Builtin.lenOf, Builtin.firstCells]
      · simp [Builtin.append_, run_underlying ht, sizeOf, typeInfo, hi, Builtin.lenOf, Builtin.firstCells, hnc, storeCells]
    · have hcells : ∀ j u, news[j]? = some u → W.cell? (ad.add j) = some u := by
        intro j u hu
        have hj : j < news.length := (List.getElem?_eq_some_iff.1 hu).1
        have hm : 0 < m := by
          rcases Nat.eq_zero_or_pos m with h | h
          · subst h; have := HR.1; rw [Nat.zero_mul] at this; omega
          · exact h
        obtain ⟨ad', h', _, hc⟩ := HR.2 hm
        injection h' with h'
        subst h'
        exact hc j u hu
      obtain ⟨v1, w1, hr, h2, h3, _, h5⟩ := run_append_own_at (P := P) W base t o.type e i0 z size bytes ht hi hz0 hz1 hz2 hzs hsz v n xs HO ad m c news HR.1 hcells h1 (by simp only [maxLen]; omega) hl hbase
      exact ⟨v1, w1, hr, h2, h3, h5⟩
  obtain ⟨v1, w1, hr, h2, h3, h5⟩ := hrun
  refine wpList_plain hgd fun K hK => ?_
  unfold Oper.wp execOp
  simp only [ho, resolve, invoke, builtin, Sem.run_bind, Sem.run_pure, Result.andThen_ok, List.map_toArray, List.map_cons, List.map_nil, hs, hx, hr]
  refine hK _ _ (h v1 w1 h2 (HB.grown h3 hbase fun k hk => (HO.lt k hk).1) h3 ?_)
  rcases h5 with h5 | h5
  · exact .inl h5
  · exact .inr ⟨_, h5, Nat.le_refl _⟩

/-- 'append(v, x)': x lies in a box of its own, just laid -/
theorem wp_app1 {w0 W : World} (base : Nat) (hgd : o.guard = none) (s x : Operand) (t e : TypeId) (z : Value) (size bytes : Nat) (cs : Array Value)
    (ho : o.op = .call { callee := .builtin .append, args := #[s, x], argTypes := #[t, t] })
    (ht : P.underlying t = some (.slice e)) (hinfo : (P.info? e).map (fun i => (i.zero, i.size, i.bytes)) = some (some z, size, bytes)) (hzs : z.cells.size = size) (hsz : 0 < size) (hb0 : 0 < bytes)
    (v : Value) (n : Nat) (xs : List Value) (hs : a.eval s = v) (hx : a.eval x = .slice (some ⟨W.heap.size, 0, none⟩) 1 1)
    (hcs : cs.size = size) (h1 : ∀ u ∈ cs.toList, u.oneCell' = true)
    (HO : W.ownsRow base e size v n xs) (HB : Below base w0 W) (hbase : base ≤ W.heap.size) (hl : (n + 1) * bytes ≤ 140737488355328)
    (h : ∀ v1 w1, w1.ownsRow base e size v1 (n + 1) (xs ++ cs.toList) → Below base w0 w1 → W.grownBy w1 v.ownBlock → (v1.ownBlock = v.ownBlock ∨ ∃ b, v1.ownBlock = some b ∧ W.heap.size ≤ b) → wpList P ops Q rest (a.put o.dst v1) w1) :
    wpList P ops Q (o :: rest) a (W.alloc (.cells cs e)) := by
  refine wp_app base hgd s x t e z size bytes ho ht hinfo hzs hsz hb0 v n xs _ 1 1 cs.toList hs hx (Rd.box W cs e hcs) h1 (HO.alloc _) (HB.alloc hbase _) (by simp; omega) hl ?_
  intro v1 w1 k1 k2 k3 k4
  refine h v1 w1 k1 k2 (World.grownBy.trans (World.grownBy_alloc W _ _) k3) ?_
  rcases k4 with k4 | ⟨b, k4, k5⟩
  · exact .inl k4
  · exact .inr ⟨b, k4, by simp at k5; omega⟩
end

/-! ### blocks known whole -/
def Blk (w : World) (g : Nat) (t : TypeId) (cs : Array Value) : Prop := w.heap[g]? = some (.cells cs t (0, 0))
section
variable {w w' : World} {g : Nat} {t : TypeId} {cs : Array Value}
theorem Blk.lt (h : Blk w g t cs) : g < w.heap.size := lt_of_block h
theorem Blk.cell (h : Blk w g t cs) (j : Nat) : w.cell? ⟨g, j, none⟩ = cs[j]? := cell_of_row w g j cs t (0, 0) h
theorem Blk.free (h : Blk w g t cs) (j : Nat) : w.frozen? ⟨g, j, none⟩ = false := by
  unfold Blk at h; simp [World.frozen?, h]
theorem Blk.set (h : Blk w g t cs) (j : Nat) (u : Value) : Blk (w.setCell ⟨g, j, none⟩ u) g t (cs.setIfInBounds j u) := by
  have hlt := h.lt
  have h' : w.heap[g] = .cells cs t (0, 0) := by unfold Blk at h; simpa [Array.getElem?_eq_getElem hlt] using h
  show (w.heap.modify g _)[g]? = _
  rw [Array.getElem?_eq_getElem (by simpa using hlt), Array.getElem_modify_self, h']
  simp
theorem Blk.keep (h : Blk w g t cs) (hk : w'.heap[g]? = w.heap[g]?) : Blk w' g t cs := hk.trans h
theorem Blk.new (w : World) (cs : Array Value) (t : TypeId) : Blk (w.alloc (.cells cs t)) w.heap.size t cs := heap_alloc_new w _
end

/-! ### what may have turned: nothing that was there but the blocks in S -/
structure Fr (S : Nat → Prop) (w w' : World) : Prop where
  os : w'.os = w.os
  tape : w'.tape = w.tape
  output : w'.output = w.output
  size : w.heap.size ≤ w'.heap.size
  block : ∀ k, k < w.heap.size → ¬ S k → w'.heap[k]? = w.heap[k]?
section
variable {S T : Nat → Prop} {w w1 w2 : World}
theorem Fr.refl (S : Nat → Prop) (w : World) : Fr S w w := ⟨rfl, rfl, rfl, Nat.le_refl _, fun _ _ _ => rfl⟩
theorem Fr.trans (h : Fr S w w1) (k : Fr T w1 w2) (hT : ∀ g, g < w.heap.size → T g → S g) : Fr S w w2 :=
  ⟨k.os.trans h.os, k.tape.trans h.tape, k.output.trans h.output, Nat.le_trans h.size k.size, fun g hg hS =>
    (k.block g (Nat.lt_of_lt_of_le hg h.size) fun ht => hS (hT g hg ht)).trans (h.block g hg hS)⟩
theorem Fr.mono (h : Fr S w w1) (hS : ∀ g, S g → T g) : Fr T w w1 := ⟨h.os, h.tape, h.output, h.size, fun g hg hT => h.block g hg fun hs => hT (hS g hs)⟩
theorem Fr.alloc (S : Nat → Prop) (w : World) (o : Obj) : Fr S w (w.alloc o) := ⟨rfl, rfl, rfl, by simp, fun k hk _ => Below.heap_alloc w o k hk⟩
theorem Fr.drewN (S : Nat → Prop) (w : World) (n : Nat) : Fr S w (w.drewN n) := ⟨rfl, rfl, rfl, Nat.le_refl _, fun _ _ _ => rfl⟩
theorem Fr.drew (S : Nat → Prop) (w : World) : Fr S w w.drew := ⟨rfl, rfl, rfl, Nat.le_refl _, fun _ _ _ => rfl⟩
theorem Fr.setCell (w : World) (p : Addr) (u : Value) : Fr (· = p.block) w (w.setCell p u) :=
  ⟨rfl, rfl, rfl, by simp [World.setCell], fun k _ hk => Below.heap_setCell w p u k hk⟩
theorem Fr.grown {row : Option Nat} (h : w.grownBy w1 row) : Fr (fun g => row = some g) w w1 :=
  ⟨h.os, h.tape, h.output, h.size, fun k hk hS => h.block k hk fun e => hS e.symm⟩
theorem Fr.of_below (h : Below w.heap.size w w1) : Fr (fun _ => False) w w1 := ⟨h.os, h.tape, h.output, h.size, fun k hk _ => h.block k hk⟩
theorem Fr.below {B : Nat} (h : Fr S w w1) (hS : ∀ g, S g → B ≤ g) (hB : B ≤ w.heap.size) : Below B w w1 :=
  ⟨h.os, h.tape, h.output, h.size, fun k hk => h.block k (by omega) fun hs => by have := hS k hs; omega⟩
theorem Fr.cell {p : Addr} {v : Value} (h : Fr S w w1) (hc : w.cell? p = some v) (hS : ¬ S p.block) : w1.cell? p = some v :=
  (World.cell?_of_block (h.block p.block (World.block_lt_of_cell? w p hc) hS)).trans hc
theorem Fr.blk {g : Nat} {t : TypeId} {cs : Array Value} (h : Fr S w w1) (hb : Blk w g t cs) (hS : ¬ S g) : Blk w1 g t cs := hb.keep (h.block g hb.lt hS)
theorem Fr.own {base : Nat} {e : TypeId} {sz n : Nat} {v : Value} {xs : List Value} (h : Fr S w w1) (ho : w.ownsRow base e sz v n xs) (hS : ∀ b, v.ownBlock = some b → ¬ S b) : w1.ownsRow base e sz v n xs := by
  refine ⟨ho.1, ?_⟩
  rcases ho.2 with h0 | ⟨g, cap, cur, rfl, hb, hg, r⟩
  · exact .inl h0
  · exact .inr ⟨g, cap, cur, rfl, hb, by rw [h.block g (Array.getElem?_eq_some_iff.1 hg).1 (hS g rfl)]; exact hg, r⟩
theorem Fr.rd {A : Option Addr} {n sz : Nat} {xs : List Value} (h : Fr S w w1) (hr : Rd w A n sz xs) (hS : ∀ ad, A = some ad → ¬ S ad.block) : Rd w1 A n sz xs :=
  hr.keep h.size fun ad hA hl => h.block ad.block hl (hS ad hA)
/-- a row and a block of another element type are not one -/
theorem own_ne {base e sz n g t : Nat} {v : Value} {xs : List Value} {cs : Array Value} (h : w.ownsRow base e sz v n xs) (hb : Blk w g t cs) (ht : t ≠ e) : v.ownBlock ≠ some g := by
  intro hv
  rcases h.2 with ⟨rfl, _⟩ | ⟨b, cap, cur, rfl, _, hg, _⟩
  · cases hv
  · have : b = g := by simpa [Value.ownBlock] using hv
    subst this
    unfold Blk at hb
    rw [hb] at hg
    injection hg with hg
    injection hg with _ h2
    exact ht h2
theorem blk_ne {g g' t t' : Nat} {cs cs' : Array Value} (h : Blk w g t cs) (h' : Blk w g' t' cs') (ht : t ≠ t') : g ≠ g' := by
  rintro rfl
  unfold Blk at h h'
  rw [h] at h'
  injection h' with h'
  injection h' with _ h3
  exact ht h3
end
end Go.Mm

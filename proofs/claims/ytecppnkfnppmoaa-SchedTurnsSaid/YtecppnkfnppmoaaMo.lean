/- Memory in walks, more: an append that moves leaves the old row; rows of numbers; a family of rows. -/
import Derived.Test.YtecppnkfnppmoaaMm
namespace Go.Mm
open Go.RowKit Go.ChangeShapes Go.WideShapes

section
variable {P : Program} {w : World}
/-- an append that makes a new block leaves all old blocks -/
theorem run_append_old (base : Nat) (t ty e : TypeId) (i : TypeInfo) (z : Value) (size bytes : Nat) (ht : P.underlying t = some (.slice e)) (hi : P.info? e = some i) (hz : i.zero = some z)
    (hsize : i.size = size) (hby : i.bytes = bytes) (hzs : z.cells.size = size) (hsz : 0 < size) (v : Value) (n : Nat) (xs : List Value) (hown : w.ownsRow base e size v n xs)
    (a : Addr) (m c : Nat) (news : List Value) (hl : news.length = m * size) (hnews : ∀ j u, news[j]? = some u → w.cell? (a.add j) = some u) (h1 : ∀ u ∈ news, u.oneCell' = true)
    (h63 : n + m ≤ maxLen) (hbytes : (n + m) * bytes ≤ 140737488355328) (hbase : base ≤ w.heap.size) {v' : Value} {w' : World}
    (hr : (Builtin.append_ #[t, t] ty #[v, .slice (some a) m c]).run P w = .ok v' w') (hv : v'.ownBlock ≠ v.ownBlock) : ∀ k, k < w.heap.size → w'.heap[k]? = w.heap[k]? := by
  obtain ⟨v2, w2, hr2, _, hgr, _, _⟩ := run_append_own_at (P := P) w base t ty e i z size bytes ht hi hz hsize hby hzs hsz v n xs hown a m c news hl hnews h1 h63 hbytes hbase
  rw [hr] at hr2
  injection hr2 with e1 e2
  subst e1 e2
  have hsmall : n + m ≤ 9223372036854775807 := by simp only [maxLen] at h63; omega
  subst hsize
  subst hby
  rcases hown.2 with ⟨rfl, rfl⟩ | ⟨g, cap, cur, rfl, hbg, hg, hnc, hcm, hcs, htake⟩
  · intro k hk
    exact hgr.block k hk (by simp [Value.ownBlock])
  · by_cases hroom : n + m ≤ cap
    · have hfit : n * i.size + news.length ≤ cur.size := by rw [hl, hcs, ← Nat.add_mul]; exact Nat.mul_le_mul_right _ hroom
      have hr3 := run_append_room (P := P) w t ty e i ht hi g n cap cur hg a m c news hl hnews h1 hroom hfit
      rw [hr] at hr3
      injection hr3 with e1 e2
      subst e1
      exact absurd rfl hv
    · have holds : ∀ j u, xs[j]? = some u → w.cell? ((⟨g, 0, none⟩ : Addr).add j) = some u := hown.cells (g := g) rfl
      have hr3 := run_append_grow (P := P) w t ty e i z ht hi hz ⟨g, 0, none⟩ n cap xs hown.1 holds a m c news hl hnews (by omega) (by omega) (growslice_fits (by omega) hbytes)
      rw [hr] at hr3
      injection hr3 with e1 e2
      subst e2
      intro k hk
      exact heap_alloc_old w.drew _ hk
end

section
variable {P : Program} {ops : Array Oper} {rest : List Oper} {o : Oper} {a : Act} {Q : Exit → Act → World → Prop}
/-- 'append(v, ys...)': as wp_app; and where the row moves, what was there stays -/
theorem wp_ape {w0 W : World} (base : Nat) (hgd : o.guard = none) (s x : Operand) (t e : TypeId) (z : Value) (size bytes : Nat)
    (ho : o.op = .call { callee := .builtin .append, args := #[s, x], argTypes := #[t, t] })
    (ht : P.underlying t = some (.slice e)) (hinfo : (P.info? e).map (fun i => (i.zero, i.size, i.bytes)) = some (some z, size, bytes)) (hzs : z.cells.size = size) (hsz : 0 < size) (hb0 : 0 < bytes)
    (v : Value) (n : Nat) (xs : List Value) (A : Option Addr) (m c : Nat) (news : List Value) (hs : a.eval s = v) (hx : a.eval x = .slice A m c)
    (HR : Rd W A m size news) (h1 : ∀ u ∈ news, u.oneCell' = true)
    (HO : W.ownsRow base e size v n xs) (HB : Below base w0 W) (hbase : base ≤ W.heap.size) (hl : (n + m) * bytes ≤ 140737488355328)
    (h : ∀ v1 w1, w1.ownsRow base e size v1 (n + m) (xs ++ news) → Below base w0 w1 → W.grownBy w1 v.ownBlock → (v1.ownBlock = v.ownBlock ∨ (∃ b, v1.ownBlock = some b ∧ W.heap.size ≤ b ∧ ∀ k, k < W.heap.size → w1.heap[k]? = W.heap[k]?)) → wpList P ops Q rest (a.put o.dst v1) w1) :
    wpList P ops Q (o :: rest) a W := by
  obtain ⟨i0, hi, hzz⟩ := Option.map_eq_some_iff.1 hinfo
  simp only [Prod.mk.injEq] at hzz
  obtain ⟨hz0, hz1, hz2⟩ := hzz
  have hlen : n + m ≤ 140737488355328 := Nat.le_trans (Nat.le_mul_of_pos_right _ hb0) hl
  have hrun : ∃ v1 w1, (Builtin.append_ #[t, t] o.type #[v, .slice A m c]).run P W = .ok v1 w1 ∧ w1.ownsRow base e size v1 (n + m) (xs ++ news) ∧ W.grownBy w1 v.ownBlock ∧ (v1.ownBlock = v.ownBlock ∨ (v1.ownBlock = some W.heap.size ∧ ∀ k, k < W.heap.size → w1.heap[k]? = W.heap[k]?)) := by
    rcases A with _ | ad
    · have h0 : m = 0 := by
        rcases Nat.eq_zero_or_pos m with h0 | h0
        · exact h0
        · obtain ⟨ad, h, _⟩ := HR.2 h0
          cases h
      subst h0
      obtain rfl : news = [] := List.eq_nil_of_length_eq_zero (by rw [HR.1, Nat.zero_mul])
      refine ⟨v, W, ?_, by simpa using HO, World.grownBy.refl W _, .inl rfl⟩
      rcases HO.2 with ⟨rfl, hn⟩ | ⟨g, cap, cur, rfl, _, _, hnc, _⟩
      · simp [Builtin.append_, run_underlying ht, sizeOf, typeInfo, hi, Builtin.lenOf, Builtin.firstCells]
      · simp [Builtin.append_, run_underlying ht, sizeOf, typeInfo, hi, Builtin.lenOf, Builtin.firstCells, hnc, storeCells]
    · have hcells : ∀ j u, news[j]? = some u → W.cell? (ad.add j) = some u := by
        intro j u hu
        have hj : j < news.length := (List.getElem?_eq_some_iff.1 hu).1
        have hm : 0 < m := by
          rcases Nat.eq_zero_or_pos m with h | h
          · subst h; have := HR.1; rw [Nat.zero_mul] at this; omega
          · exact h
        obtain ⟨ad', h', _, hc⟩ := HR.2 hm
        injection h' with h'
        subst h'
        exact hc j u hu
      obtain ⟨v1, w1, hr, h2, h3, _, h5⟩ := run_append_own_at (P := P) W base t o.type e i0 z size bytes ht hi hz0 hz1 hz2 hzs hsz v n xs HO ad m c news HR.1 hcells h1 (by simp only [maxLen]; omega) hl hbase
      refine ⟨v1, w1, hr, h2, h3, ?_⟩
      by_cases hv : v1.ownBlock = v.ownBlock
      · exact .inl hv
      · rcases h5 with h5 | h5
        · exact absurd h5 hv
        · exact .inr ⟨h5, run_append_old base t o.type e i0 z size bytes ht hi hz0 hz1 hz2 hzs hsz v n xs HO ad m c news HR.1 hcells h1 (by simp only [maxLen]; omega) hl hbase hr hv⟩
  obtain ⟨v1, w1, hr, h2, h3, h5⟩ := hrun
  refine wpList_plain hgd fun K hK => ?_
  unfold Oper.wp execOp
  simp only [ho, resolve, invoke, builtin, Sem.run_bind, Sem.run_pure, Result.andThen_ok, List.map_toArray, List.map_cons, List.map_nil, hs, hx, hr]
  refine hK _ _ (h v1 w1 h2 (HB.grown h3 hbase fun k hk => (HO.lt k hk).1) h3 ?_)
  rcases h5 with h5 | ⟨h5, h6⟩
  · exact .inl h5
  · exact .inr ⟨_, h5, Nat.le_refl _, h6⟩

/-- 'append(v, x)': x lies in a box of its own, just laid -/
theorem wp_ape1 {w0 W : World} (base : Nat) (hgd : o.guard = none) (s x : Operand) (t e : TypeId) (z : Value) (size bytes : Nat) (cs : Array Value)
    (ho : o.op = .call { callee := .builtin .append, args := #[s, x], argTypes := #[t, t] })
    (ht : P.underlying t = some (.slice e)) (hinfo : (P.info? e).map (fun i => (i.zero, i.size, i.bytes)) = some (some z, size, bytes)) (hzs : z.cells.size = size) (hsz : 0 < size) (hb0 : 0 < bytes)
    (v : Value) (n : Nat) (xs : List Value) (hs : a.eval s = v) (hx : a.eval x = .slice (some ⟨W.heap.size, 0, none⟩) 1 1)
    (hcs : cs.size = size) (h1 : ∀ u ∈ cs.toList, u.oneCell' = true)
    (HO : W.ownsRow base e size v n xs) (HB : Below base w0 W) (hbase : base ≤ W.heap.size) (hl : (n + 1) * bytes ≤ 140737488355328)
    (h : ∀ v1 w1, w1.ownsRow base e size v1 (n + 1) (xs ++ cs.toList) → Below base w0 w1 → W.grownBy w1 v.ownBlock → (v1.ownBlock = v.ownBlock ∨ (∃ b, v1.ownBlock = some b ∧ W.heap.size ≤ b ∧ ∀ k, k < W.heap.size → w1.heap[k]? = W.heap[k]?)) → wpList P ops Q rest (a.put o.dst v1) w1) :
    wpList P ops Q (o :: rest) a (W.alloc (.cells cs e)) := by
  refine wp_ape base hgd s x t e z size bytes ho ht hinfo hzs hsz hb0 v n xs _ 1 1 cs.toList hs hx (Rd.box W cs e hcs) h1 (HO.alloc _) (HB.alloc hbase _) (by simp; omega) hl ?_
  intro v1 w1 k1 k2 k3 k4
  refine h v1 w1 k1 k2 (World.grownBy.trans (World.grownBy_alloc W _ _) k3) ?_
  rcases k4 with k4 | ⟨b, k4, k5, k6⟩
  · exact .inl k4
  · exact .inr ⟨b, k4, by simp at k5; omega, fun k hk => (k6 k (by simp; omega)).trans (Below.heap_alloc W _ k hk)⟩
end

/-! ### rows of one cell an element -/
section
variable {w w1 : World} {base e n c : Nat} {v : Value} {xs : List Value}
theorem own_slice {sz : Nat} (h : w.ownsRow base e sz v n xs) : ∃ A c, v = .slice A n c ∧ n ≤ c ∧ (∀ ad, A = some ad → v.ownBlock = some ad.block) ∧ Rd w A n sz xs := by
  rcases h.2 with ⟨rfl, rfl⟩ | ⟨g, cap, cur, rfl, hb, hg, hnc, r⟩
  · exact ⟨none, 0, rfl, Nat.le_refl _, (fun _ h => by cases h), Rd.of_own h⟩
  · exact ⟨_, cap, rfl, hnc, (fun ad h => by cases h; rfl), Rd.of_own h⟩
theorem own_len (h : w.ownsRow base e 1 v n xs) : xs.length = n := by rw [h.1, Nat.mul_one]
/-- an owned row that is not empty lies in a block of its own -/
theorem own_blk {sz : Nat} (h : w.ownsRow base e sz v n xs) (hn : 0 < n) : ∃ g cap, v = .slice (some ⟨g, 0, none⟩) n cap ∧ n ≤ cap ∧ base ≤ g ∧ g < w.heap.size ∧ (∀ j u, xs[j]? = some u → w.cell? ⟨g, j, none⟩ = some u) ∧ ∀ j, w.frozen? ⟨g, j, none⟩ = false := by
  rcases h.2 with ⟨_, rfl⟩ | ⟨g, cap, cur, rfl, hb, hg, hnc, r⟩
  · omega
  · refine ⟨g, cap, rfl, hnc, hb, (Array.getElem?_eq_some_iff.1 hg).1, fun j u hu => ?_, fun j => ?_⟩
    · have := h.cells (g := g) rfl j u hu
      rwa [add_plain] at this
    · simp [World.frozen?, hg]
theorem own_set {k : Nat} (h : w.ownsRow base e 1 (.slice (some ⟨n, 0, none⟩) c k) c xs) (j : Nat) (u : Value) : (w.setCell ⟨n, j, none⟩ u).ownsRow base e 1 (.slice (some ⟨n, 0, none⟩) c k) c (xs.set j u) := by
  rcases h.2 with ⟨h0, _⟩ | ⟨g, cap, cur, hv, hb, hg, hnc, hcm, hcs, ht⟩
  · cases h0
  · injection hv with h1 h2 h3
    injection h1 with h1
    injection h1 with h1
    subst h1
    subst h3
    refine ⟨by rw [List.length_set]; exact h.1, .inr ⟨n, k, cur.setIfInBounds j u, rfl, hb, ?_, hnc, hcm, by simpa using hcs, ?_⟩⟩
    · have := (show Blk w n e cur from hg).set j u
      exact this
    · rw [← ht, Array.toList_setIfInBounds, List.take_set]
theorem own_mono {sz base' : Nat} (h : w.ownsRow base e sz v n xs) (hb : base' ≤ base) : w.ownsRow base' e sz v n xs := by
  refine ⟨h.1, ?_⟩
  rcases h.2 with h0 | ⟨g, cap, cur, rfl, hg, r⟩
  · exact .inl h0
  · exact .inr ⟨g, cap, cur, rfl, Nat.le_trans hb hg, r⟩
theorem own_lt {sz : Nat} (h : w.ownsRow base e sz v n xs) {b : Nat} (hb : v.ownBlock = some b) : base ≤ b ∧ b < w.heap.size := h.lt b hb
/-- rows of different element types are not one -/
theorem own_own_ne {sz sz' base' e' n' : Nat} {v' : Value} {xs' : List Value} (h : w.ownsRow base e sz v n xs) (h' : w.ownsRow base' e' sz' v' n' xs') (he : e ≠ e') {b : Nat} (hb : v.ownBlock = some b) : v'.ownBlock ≠ some b := by
  intro hb'
  rcases h.2 with ⟨rfl, _⟩ | ⟨g, cap, cur, rfl, _, hg, _⟩
  · cases hb
  rcases h'.2 with ⟨rfl, _⟩ | ⟨g', cap', cur', rfl, _, hg', _⟩
  · cases hb'
  have e1 : g = b := by simpa [Value.ownBlock] using hb
  have e2 : g' = b := by simpa [Value.ownBlock] using hb'
  subst e1 e2
  rw [hg] at hg'
  injection hg' with hg'
  injection hg' with _ h2
  exact he h2
theorem Rd.take {A : Option Addr} {m : Nat} (h : Rd w A n 1 xs) (hm : m ≤ n) : Rd w A m 1 (xs.take m) := by
  refine ⟨by have := h.1; simp; omega, fun h0 => ?_⟩
  obtain ⟨ad, rfl, hl, hc⟩ := h.2 (by omega)
  refine ⟨ad, rfl, hl, fun j u hu => hc j u ?_⟩
  rw [List.getElem?_take] at hu
  split at hu
  · exact hu
  · cases hu
/-- the first cells of a row that is owned -/
theorem Rd.prefix {g cap m : Nat} {ys : List Value} (h : w.ownsRow base e 1 (.slice (some ⟨g, 0, none⟩) n cap) n xs) (hp : xs.take m = ys) (hm : m ≤ n) : Rd w (some ⟨g, 0, none⟩) m 1 ys := by
  have := Rd.of_own h
  rw [← hp]
  exact this.take hm
theorem Rd.cell {A : Option Addr} {sz j : Nat} {u : Value} (h : Rd w A n sz xs) (hu : xs[j]? = some u) : ∃ ad, A = some ad ∧ ad.block < w.heap.size ∧ w.cell? (ad.add j) = some u := by
  have hn : 0 < n := by
    rcases Nat.eq_zero_or_pos n with rfl | h0
    · have h1 := h.1
      have := (List.getElem?_eq_some_iff.1 hu).1
      rw [Nat.zero_mul] at h1; omega
    · exact h0
  obtain ⟨ad, h1, h2, h3⟩ := h.2 hn
  exact ⟨ad, h1, h2, h3 j u hu⟩
end

/-! ### numbers -/
def iL (xs : List Int) : List Value := xs.map (Value.int .i64)
theorem iL_get {xs : List Int} {j : Nat} {x : Int} (h : xs[j]? = some x) : (iL xs)[j]? = some (.int .i64 x) := by simp [iL, h]
theorem iL_len (xs : List Int) : (iL xs).length = xs.length := by simp [iL]
theorem iL_one (xs : List Int) : ∀ u ∈ iL xs, u.oneCell' = true := by
  intro u hu
  obtain ⟨x, _, rfl⟩ := List.mem_map.1 hu
  rfl
theorem iL_snoc (xs : List Int) (x : Int) : iL xs ++ [.int .i64 x] = iL (xs ++ [x]) := by simp [iL]
theorem iL_append (xs ys : List Int) : iL xs ++ iL ys = iL (xs ++ ys) := by simp [iL]
theorem iL_set (xs : List Int) (j : Nat) (x : Int) : (iL xs).set j (.int .i64 x) = iL (xs.set j x) := by simp [iL, List.map_set]
theorem iL_take (xs : List Int) (m : Nat) : (iL xs).take m = iL (xs.take m) := by simp [iL, List.map_take]
theorem iL_flat (xs : List Int) : xs.flatMap (fun x => [Value.int .i64 x]) = iL xs := flatMap_one _ _
end Go.Mm

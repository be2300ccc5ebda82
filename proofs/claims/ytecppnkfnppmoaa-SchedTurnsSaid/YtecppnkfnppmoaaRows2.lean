/- Memory, more: a block as a flat list of things; make. -/
import Derived.Test.YtecppnkfnppmoaaMm
import Derived.Laws.MakeOwn
import Derived.Laws.Entries
namespace Go.Mm
open Go.RowKit
/-- a block whose cells are things, flat -/
def Flat {α : Type} (w : World) (g : Nat) (t : TypeId) (f : α → List Value) (xs : List α) : Prop := Blk w g t (xs.flatMap f).toArray
section
variable {α : Type} {w w' : World} {g sz : Nat} {t : TypeId} {f : α → List Value} {xs : List α}
theorem length_flatMap (hf : ∀ x, (f x).length = sz) (xs : List α) : (xs.flatMap f).length = xs.length * sz := by
  induction xs with
  | nil => simp
  | cons x xs ih => rw [List.flatMap_cons, List.length_append, ih, hf, List.length_cons, Nat.add_mul]; omega
theorem flatMap_at (hf : ∀ x, (f x).length = sz) : ∀ {xs : List α} {i j : Nat} {x : α}, xs[i]? = some x → j < sz → (xs.flatMap f)[i * sz + j]? = (f x)[j]?
  | [], i, j, x, h, _ => by simp at h
  | y :: xs, 0, j, x, h, hj => by
    simp at h; subst h
    rw [List.flatMap_cons, Nat.zero_mul, Nat.zero_add, List.getElem?_append_left (by rw [hf]; exact hj)]
  | y :: xs, i + 1, j, x, h, hj => by
    rw [List.getElem?_cons_succ] at h
    rw [List.flatMap_cons, List.getElem?_append_right (by rw [hf, Nat.add_mul]; omega), hf, show (i + 1) * sz + j - sz = i * sz + j from by rw [Nat.add_mul]; omega]
    exact flatMap_at hf h hj
theorem flatMap_set (hf : ∀ x, (f x).length = sz) : ∀ {xs : List α} {i j : Nat} {x y : α} {u : Value}, xs[i]? = some x → j < sz → f y = (f x).set j u → (xs.flatMap f).set (i * sz + j) u = (xs.set i y).flatMap f
  | [], i, j, x, y, u, h, _, _ => by simp at h
  | z :: xs, 0, j, x, y, u, h, hj, hy => by
    simp at h; subst h
    rw [List.set_cons_zero, List.flatMap_cons, List.flatMap_cons, hy, Nat.zero_mul, Nat.zero_add, List.set_append_left _ _ (by rw [hf]; exact hj)]
  | z :: xs, i + 1, j, x, y, u, h, hj, hy => by
    rw [List.getElem?_cons_succ] at h
    rw [List.set_cons_succ, List.flatMap_cons, List.flatMap_cons, ← flatMap_set hf h hj hy, List.set_append_right _ _ (by rw [hf, Nat.add_mul]; omega), hf, show (i + 1) * sz + j - sz = i * sz + j from by rw [Nat.add_mul]; omega]
theorem Flat.cell (h : Flat w g t f xs) (hf : ∀ x, (f x).length = sz) {i j : Nat} {x : α} {u : Value} (hx : xs[i]? = some x) (hj : j < sz) (hu : (f x)[j]? = some u) : w.cell? ⟨g, i * sz + j, none⟩ = some u := by
  rw [Blk.cell h]
  simp only [List.getElem?_toArray]
  rw [flatMap_at hf hx hj, hu]
theorem Flat.free (h : Flat w g t f xs) (j : Nat) : w.frozen? ⟨g, j, none⟩ = false := Blk.free h j
theorem Flat.set (h : Flat w g t f xs) (hf : ∀ x, (f x).length = sz) {i j : Nat} {x : α} (y : α) {u : Value} (hx : xs[i]? = some x) (hj : j < sz) (hy : f y = (f x).set j u) : Flat (w.setCell ⟨g, i * sz + j, none⟩ u) g t f (xs.set i y) := by
  have := Blk.set h (i * sz + j) u
  rw [List.setIfInBounds_toArray, flatMap_set hf hx hj hy] at this
  exact this
theorem Flat.lt (h : Flat w g t f xs) : g < w.heap.size := Blk.lt h
theorem Flat.keep (h : Flat w g t f xs) (hk : w'.heap[g]? = w.heap[g]?) : Flat w' g t f xs := Blk.keep h hk
theorem made_flat (f : α → List Value) (x : α) (hf : (f x).length = sz) (hs : 0 < sz) (n : Nat) : madeCells (f x).toArray (n * sz) = ((List.replicate n x).flatMap f).toArray := by
  apply Array.ext_getElem?
  intro k
  simp only [madeCells, Array.getElem?_map, Array.getElem?_range, List.getElem?_toArray]
  by_cases hk : k < n * sz
  · have hd : k / sz < n := Nat.div_lt_of_lt_mul (by rw [Nat.mul_comm]; exact hk)
    have hm := Nat.mod_lt k hs
    have hl : ∀ l ∈ (List.replicate n x).map f, l.length = sz := by
      intro l hl
      obtain ⟨y, hy, rfl⟩ := List.mem_map.1 hl
      rw [List.eq_of_mem_replicate hy, hf]
    have h1 : (((List.replicate n x).map f)[k / sz]? : Option (List Value)) = some (f x) := by
      rw [List.getElem?_map, List.getElem?_replicate, if_pos hd]; rfl
    have h2 : (f x)[k % sz]? = some (f x)[k % sz] := List.getElem?_eq_getElem (by omega)
    have := flatten_at _ hl _ _ _ _ h1 h2
    rw [show k / sz * sz + k % sz = k from by rw [Nat.mul_comm]; exact Nat.div_add_mod k sz] at this
    rw [List.flatMap_def, this]
    simp [hk, hf, getElem!_pos, hm]
  · have : ((List.replicate n x).flatMap f)[k]? = none := by
      rw [List.getElem?_eq_none_iff, List.flatMap_def]
      rw [length_flatten_of (sz := sz) _ (by
        intro l hl
        obtain ⟨y, hy, rfl⟩ := List.mem_map.1 hl
        rw [List.eq_of_mem_replicate hy, hf])]
      simp; omega
    rw [this]
    simp [hk]
end
/-- 'make', of a length that is a variable -/
theorem run_make_n {P : Program} (t e : TypeId) (i : TypeInfo) (z : Value) (ht : P.underlying t = some (.slice e)) (hi : P.info? e = some i) (hz : i.zero = some z)
    (n : Nat) (hb : i.bytes * n ≤ 281474976710656) (hn : n ≤ 9223372036854775807) (w : World) :
    (Instr.makeSlice t (.int .i64 (n : Int)) (.int .i64 (n : Int))).run P w = .ok (.slice (some ⟨w.heap.size, 0, none⟩) n n) (w.alloc (.cells (madeCells z.cells (n * i.size)) e)) := by
  have hb' : (i.bytes : Int) * (n : Int) ≤ 281474976710656 := by
    have h : ((i.bytes * n : Nat) : Int) ≤ 281474976710656 := by omega
    rwa [Int.natCast_mul] at h
  have hr := run_make (P := P) w t e i z ht hi hz .i64 .i64 n n (by omega) (by omega) hb' (by omega)
  simp only [Int.toNat_natCast] at hr
  exact hr
/-- the same, the block flat -/
theorem run_make_flat {P : Program} {α : Type} (f : α → List Value) (x : α) {t e : TypeId} {z : Value} {sz bytes : Nat} (ht : P.underlying t = some (.slice e)) (hi : (P.info? e).map (fun i => (i.zero, i.size, i.bytes)) = some (some z, sz, bytes)) (hz : z.cells = (f x).toArray) (hsz : 0 < sz) (hl : (f x).length = sz)
    (n : Nat) (hb : bytes * n ≤ 281474976710656) (hn : n ≤ 9223372036854775807) (w : World) :
    (Instr.makeSlice t (.int .i64 (n : Int)) (.int .i64 (n : Int))).run P w = .ok (.slice (some ⟨w.heap.size, 0, none⟩) n n) (w.alloc (.cells ((List.replicate n x).flatMap f).toArray e)) := by
  obtain ⟨i, h1, hzz⟩ := Option.map_eq_some_iff.1 hi
  simp only [Prod.mk.injEq] at hzz
  obtain ⟨h2, h3, h4⟩ := hzz
  rw [run_make_n t e i z ht h1 h2 n (by rw [h4]; exact hb) hn w, h3, hz, made_flat f x hl hsz n]
end Go.Mm

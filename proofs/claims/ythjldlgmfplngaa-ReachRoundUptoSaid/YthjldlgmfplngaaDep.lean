/- Plain: how far each name is; and walks: line, way. -/
import Derived.Test.YthjldlgmfplngaaAlive
namespace Go.Reach
variable {α : Type} [DecidableEq α]
section
variable {f : α → List α} {x : α} {k : Nat}
/-- a thing's place tells in whose turn it was put there -/
theorem turn_of (hk : (cl f [x] k).length ≤ k) {i : Nat} {y : α} (hi : 0 < i) (hy : (cl f [x] k)[i]? = some y) :
    ∃ j z, j < i ∧ (cl f [x] k)[j]? = some z ∧ why f x (cl f [x] k) y = some z ∧ (cl f [x] j).length ≤ i ∧ i < (cl f [x] (j + 1)).length := by
  obtain ⟨j, z, hj, hR, hz, hw⟩ := (rooted_of hk).up i y hi hy
  obtain ⟨j', _, hR', h1, h2⟩ := rs_at (f := f) (l0 := [x]) rfl hi (List.getElem?_eq_some_iff.1 hy).1
  rw [hR] at hR'
  injection hR' with e
  have : j = j' := by omega
  subst this
  exact ⟨j, z, hj, hz, hw, h1, h2⟩
theorem why_in {d : List α} {y z : α} (h : why f x d y = some z) : y ∈ f z := by
  unfold why at h
  split at h
  · cases h
  · have := List.find?_some h
    simpa using this
/-- how far -/
def dep (f : α → List α) (x : α) (k : Nat) (y : α) : Nat := (wayN (why f x (cl f [x] k)) x (cl f [x] k).length y).length
theorem dep_first (hk : (cl f [x] k).length ≤ k) : dep f x k x = 1 := by
  unfold dep
  rw [(rooted_of hk).first (Nat.le_refl _)]
  rfl
theorem dep_step (hk : (cl f [x] k).length ≤ k) {i j : Nat} {y z : α} (hi : 0 < i) (hy : (cl f [x] k)[i]? = some y) (hj : (cl f [x] k)[j]? = some z) (hr : why f x (cl f [x] k) y = some z) (hji : j < i) : dep f x k y = dep f x k z + 1 := by
  unfold dep
  rw [(rooted_of hk).step hi hy hj hr hji (Nat.le_refl _), List.length_append]
  rfl
theorem dep_pos (hk : (cl f [x] k).length ≤ k) {i : Nat} {y : α} (hy : (cl f [x] k)[i]? = some y) : 1 ≤ dep f x k y := by
  rcases Nat.eq_zero_or_pos i with h0 | h0
  · subst h0
    rw [(rooted_of hk).fst] at hy
    injection hy with hy
    rw [← hy, dep_first hk]
    exact Nat.le_refl _
  · obtain ⟨j, z, hj, hz, hw, _⟩ := turn_of hk h0 hy
    rw [dep_step hk h0 hy hz hw hj]
    omega
/-- those behind are no nearer -/
theorem dep_mono (hk : (cl f [x] k).length ≤ k) : ∀ (j i : Nat) (y z : α), i ≤ j → (cl f [x] k)[i]? = some y → (cl f [x] k)[j]? = some z → dep f x k y ≤ dep f x k z := by
  intro j
  induction j using Nat.strongRecOn with
  | _ j ih =>
    intro i y z hij hy hz
    rcases Nat.eq_zero_or_pos i with h0 | h0
    · subst h0
      rw [(rooted_of hk).fst] at hy
      injection hy with hy
      rw [← hy, dep_first hk]
      exact dep_pos hk hz
    · obtain ⟨a, u, ha, hu, hw, h1, h2⟩ := turn_of hk h0 hy
      obtain ⟨b, v, hb, hv, hw', h3, h4⟩ := turn_of hk (Nat.lt_of_lt_of_le h0 hij) hz
      rw [dep_step hk h0 hy hu hw ha, dep_step hk (Nat.lt_of_lt_of_le h0 hij) hz hv hw' hb]
      have hab : a ≤ b := by
        rcases Nat.lt_or_ge b a with h | h
        · have := (cl_mono (f := f) (l0 := [x]) (show b + 1 ≤ a from h)).length_le
          omega
        · exact h
      have := ih b hb a u v hab hu hv
      omega
/-- along a line one goes no further than by one -/
theorem dep_edge (hk : (cl f [x] k).length ≤ k) {u v : α} (hu : u ∈ cl f [x] k) (hv : v ∈ f u) : v ∈ cl f [x] k ∧ dep f x k v ≤ dep f x k u + 1 := by
  have hW : Whole f [x] (cl f [x] k) := ⟨k, rfl, hk⟩
  have hvL := hW.closed u hu v hv
  refine ⟨hvL, ?_⟩
  obtain ⟨i, hi⟩ := List.getElem?_of_mem hvL
  obtain ⟨m, hm⟩ := List.getElem?_of_mem hu
  rcases Nat.eq_zero_or_pos i with h0 | h0
  · subst h0
    rw [(rooted_of hk).fst] at hi
    injection hi with hi
    rw [← hi, dep_first hk]
    omega
  · obtain ⟨j, z, hj, hz, hw, h1, h2⟩ := turn_of hk h0 hi
    rw [dep_step hk h0 hi hz hw hj]
    have hjm : j ≤ m := by
      rcases Nat.lt_or_ge m j with h | h
      · exfalso
        have hil := (List.getElem?_eq_some_iff.1 hi).1
        have hjk : j ≤ k := by omega
        have hml : m < (cl f [x] j).length := by
          rcases Nat.lt_or_ge m (cl f [x] j).length with h' | h'
          · exact h'
          · have e2 := cl_done (f := f) (l0 := [x]) (k := j) (j := k) (by omega) hjk
            have hmk := (List.getElem?_eq_some_iff.1 hm).1
            rw [e2] at hmk
            omega
        have pre : ∀ {p q : Nat} {u : α}, (cl f [x] p)[q]? = some u → p ≤ k → (cl f [x] k)[q]? = some u := fun {p q u} h hn => by
          obtain ⟨t, ht⟩ := cl_mono (f := f) (l0 := [x]) hn
          rw [← ht, List.getElem?_append_left (List.getElem?_eq_some_iff.1 h).1]
          exact h
        obtain ⟨u', hu'⟩ : ∃ u', (cl f [x] j)[m]? = some u' := ⟨_, List.getElem?_eq_getElem hml⟩
        have : u' = u := by
          have := pre hu' hjk
          rw [hm] at this
          injection this with this
          exact this.symm
        subst this
        have hin := cl_had (f := f) (l0 := [x]) h hu' v hv
        obtain ⟨q, hq⟩ := List.getElem?_of_mem hin
        have h5 := nodup_at (cl_nodup (by simp) k) (pre hq hjk) hi
        have := (List.getElem?_eq_some_iff.1 hq).1
        omega
      · exact h
    have := dep_mono hk m j z u hjm hz hm
    omega
theorem dep_none (hk : (cl f [x] k).length ≤ k) {y : α} (hy : y ∉ cl f [x] k) : dep f x k y = 0 := by
  unfold dep
  rw [(rooted_of hk).none hy]
  rfl
theorem dep_iff (hk : (cl f [x] k).length ≤ k) {y : α} : 0 < dep f x k y ↔ y ∈ cl f [x] k := by
  constructor
  · intro h
    by_cases hy : y ∈ cl f [x] k
    · exact hy
    · rw [dep_none hk hy] at h; omega
  · intro h
    obtain ⟨i, hi⟩ := List.getElem?_of_mem h
    exact dep_pos hk hi
/-- where there is a way from a to b and one from b to c -/
theorem dep_through {a b : α} {k m : Nat} (ha : (cl f [a] k).length ≤ k) (hb : (cl f [b] m).length ≤ m) (hab : b ∈ cl f [a] k) : ∀ (i : Nat) (u : α), (cl f [b] m)[i]? = some u → u ∈ cl f [a] k ∧ dep f a k u + 1 ≤ dep f a k b + dep f b m u := by
  intro i
  induction i using Nat.strongRecOn with
  | _ i ih =>
    intro u hu
    rcases Nat.eq_zero_or_pos i with h0 | h0
    · subst h0
      rw [(rooted_of hb).fst] at hu
      injection hu with hu
      subst hu
      rw [dep_first hb]
      exact ⟨hab, Nat.le_refl _⟩
    · obtain ⟨j, z, hj, hz, hw, _⟩ := turn_of hb h0 hu
      obtain ⟨h1, h2⟩ := ih j hj z hz
      obtain ⟨h3, h4⟩ := dep_edge ha h1 (why_in hw)
      rw [dep_step hb h0 hu hz hw hj]
      exact ⟨h3, by omega⟩
/-- the way to a thing: it begins at the first, ends there, and goes along lines -/
theorem way_is (hk : (cl f [x] k).length ≤ k) : ∀ (i : Nat) (y : α), (cl f [x] k)[i]? = some y →
    (wayN (why f x (cl f [x] k)) x (cl f [x] k).length y)[0]? = some x ∧ (wayN (why f x (cl f [x] k)) x (cl f [x] k).length y).getLast? = some y ∧
    ∀ (p : Nat) (a b : α), (wayN (why f x (cl f [x] k)) x (cl f [x] k).length y)[p]? = some a → (wayN (why f x (cl f [x] k)) x (cl f [x] k).length y)[p + 1]? = some b → b ∈ f a := by
  intro i
  induction i using Nat.strongRecOn with
  | _ i ih =>
    intro y hy
    rcases Nat.eq_zero_or_pos i with h0 | h0
    · subst h0
      rw [(rooted_of hk).fst] at hy
      injection hy with hy
      subst hy
      rw [(rooted_of hk).first (Nat.le_refl _)]
      exact ⟨rfl, rfl, fun p a b h1 h2 => by simp at h2⟩
    · obtain ⟨j, z, hj, hz, hw, _⟩ := turn_of hk h0 hy
      obtain ⟨h1, h2, h3⟩ := ih j hj z hz
      rw [(rooted_of hk).step h0 hy hz hw hj (Nat.le_refl _)]
      refine ⟨?_, by simp, fun p a b hp hp1 => ?_⟩
      · rw [List.getElem?_append_left (List.getElem?_eq_some_iff.1 h1).1, h1]
      · generalize wayN (why f x (cl f [x] k)) x (cl f [x] k).length z = l at *
        rcases Nat.lt_or_ge (p + 1) l.length with h | h
        · rw [List.getElem?_append_left (by omega)] at hp hp1
          exact h3 p a b hp hp1
        · have hlt := (List.getElem?_eq_some_iff.1 hp1).1
          rw [List.length_append, List.length_singleton] at hlt
          rw [List.getElem?_append_left (by omega)] at hp
          rw [List.getElem?_append_right (by omega), show p + 1 - l.length = 0 by omega] at hp1
          simp at hp1
          subst hp1
          rw [List.getLast?_eq_getElem?, show l.length - 1 = p by omega, hp] at h2
          injection h2 with h2
          subst h2
          exact why_in hw
end
end Go.Reach

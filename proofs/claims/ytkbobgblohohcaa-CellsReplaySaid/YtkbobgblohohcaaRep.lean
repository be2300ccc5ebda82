/- The trace, played again: plain. -/
import Derived.Test.YtkbobgblohohcaaMade
namespace Go.Cells
open Go.RowKit Go.Mm
def stood (l : List Int) (a : Int) : Int := if 0 ≤ a ∧ a < l.length then l.getD a.toNat 0 else 0
/-- an entry says what stood there -/
def Told (l : List Int) (x : Acc) : Prop := (x.k = 1 → x.v = stood l x.a) ∧ (x.k ≠ 1 → x.o = stood l x.a) ∧ (x.good = true → 0 ≤ x.a ∧ x.a < l.length)
/-- the words, an entry on -/
def made1 (l : List Int) (x : Acc) : List Int := if x.good = true ∧ x.k = 4 then l.set x.a.toNat (wrap64 (stood l x.a + x.v)) else if x.good = true ∧ (x.k = 2 ∨ x.k = 3) then l.set x.a.toNat x.v else l
theorem made1_len (l : List Int) (x : Acc) : (made1 l x).length = l.length := by
  unfold made1
  split
  · simp
  · split <;> simp
def Rp (n : Nat) (S : Cm) : Prop := S.tr.foldl made1 (List.replicate n 0) = S.ws ∧ ∀ i x, S.tr[i]? = some x → Told ((S.tr.take i).foldl made1 (List.replicate n 0)) x
theorem Rp.len {n : Nat} {S : Cm} (h : Rp n S) : S.ws.length = n := by
  rw [← h.1]
  have : ∀ (tr : List Acc) (l : List Int), (tr.foldl made1 l).length = l.length := by
    intro tr
    induction tr with
    | nil => intro l; rfl
    | cons x t ih => intro l; rw [List.foldl_cons, ih, made1_len]
  rw [this]; simp
theorem Rp.snoc {n : Nat} {S S' : Cm} {z : Acc} (h : Rp n S) (ht : S'.tr = S.tr ++ [z]) (h1 : Told S.ws z) (h2 : made1 S.ws z = S'.ws) : Rp n S' := by
  refine ⟨by rw [ht, List.foldl_append, h.1]; exact h2, fun i x hx => ?_⟩
  rw [ht] at hx ⊢
  by_cases hi : i < S.tr.length
  · rw [List.getElem?_append_left hi] at hx
    rw [List.take_append_of_le_length (by omega)]
    exact h.2 i x hx
  · have hlt := (List.getElem?_eq_some_iff.1 hx).1
    simp at hlt
    have : i = S.tr.length := by omega
    subst this
    rw [List.getElem?_append_right (Nat.le_refl _)] at hx
    simp at hx
    subst hx
    rw [List.take_left', h.1]
    · exact h1
    · rfl
theorem Rp.at {n i : Nat} {S : Cm} {x : Acc} (h : Rp n S) (hx : S.tr[i]? = some x) : Told ((S.tr.take i).foldl made1 (List.replicate n 0)) x ∧ (S.tr.take (i + 1)).foldl made1 (List.replicate n 0) = made1 ((S.tr.take i).foldl made1 (List.replicate n 0)) x :=
  ⟨h.2 i x hx, by rw [List.take_add_one, hx, List.foldl_append]; rfl⟩
theorem look_stood (S : Cm) (a : Int) : (S.look a).1 = stood S.ws a ∧ ((S.look a).2 = 0 → 0 ≤ a ∧ a < S.ws.length) := by
  unfold Cm.look stood
  by_cases h : 0 ≤ a ∧ a < S.ws.length
  · rw [if_pos h, if_pos h]
    refine ⟨?_, fun _ => h⟩
    split
    · rename_i hp; exact hp.symm
    · rfl
  · rw [if_neg h, if_neg h]
    exact ⟨rfl, fun h => by cases h⟩
theorem Rp.load {n : Nat} {S : Cm} (h : Rp n S) (a : Int) : Rp n (S.load a) := by
  obtain ⟨l1, l2⟩ := look_stood S a
  refine h.snoc (z := ⟨1, a, (S.look a).1, 0, (S.look a).2 == 0⟩) rfl ⟨fun _ => l1, fun h => absurd rfl h, fun h => l2 (by simpa using h)⟩ ?_
  unfold made1
  rw [if_neg (fun h => by have := h.2; simp at this), if_neg (fun h => by have := h.2; simp at this)]
  rfl
theorem Rp.store {n : Nat} {S : Cm} (h : Rp n S) (a b : Int) : Rp n (S.store a b) := by
  obtain ⟨l1, l2⟩ := look_stood S a
  refine h.snoc (z := ⟨2, a, b, (S.look a).1, (S.look a).2 == 0⟩) rfl ⟨fun h => by simp at h, fun _ => l1, fun h => l2 (by simpa using h)⟩ ?_
  unfold made1 Cm.store
  rw [if_neg (fun h => by have := h.2; simp at this)]
  by_cases h0 : (S.look a).2 = 0
  · rw [if_pos ⟨by simpa using h0, .inl rfl⟩]; simp only [if_pos h0]
  · rw [if_neg (fun h => h0 (by simpa using h.1))]; simp only [if_neg h0]
theorem Rp.swap {n : Nat} {S : Cm} (h : Rp n S) (a b c : Int) : Rp n (S.swap a b c) := by
  obtain ⟨l1, l2⟩ := look_stood S a
  have hs : S.swaps a b = true → (S.look a).2 = 0 := fun h => by unfold Cm.swaps at h; simp at h; exact h.1
  refine h.snoc (z := ⟨3, a, c, (S.look a).1, S.swaps a b⟩) rfl ⟨fun h => by simp at h, fun _ => l1, fun h => l2 (hs h)⟩ ?_
  unfold made1 Cm.swap
  rw [if_neg (fun h => by have := h.2; simp at this)]
  by_cases h0 : S.swaps a b = true
  · rw [if_pos ⟨h0, .inr rfl⟩]; simp only [if_pos h0]
  · rw [if_neg (fun h => h0 h.1)]; simp only [if_neg h0]
theorem Rp.add {n : Nat} {S : Cm} (h : Rp n S) (a b : Int) : Rp n (S.add a b) := by
  obtain ⟨l1, l2⟩ := look_stood S a
  refine h.snoc (z := ⟨4, a, b, (S.look a).1, (S.look a).2 == 0⟩) rfl ⟨fun h => by simp at h, fun _ => l1, fun h => l2 (by simpa using h)⟩ ?_
  unfold made1 Cm.add
  by_cases h0 : (S.look a).2 = 0
  · rw [if_pos ⟨by simpa using h0, rfl⟩]; simp only [if_pos h0, l1]
  · rw [if_neg (fun h => h0 (by simpa using h.1)), if_neg (fun h => h0 (by simpa using h.1))]; simp only [if_neg h0]
end Go.Cells
namespace Go.Proofs.Ytkbobgblohohcaa
open Go.Cells
theorem Rp.made {n : Nat} (h : 1 ≤ n) : Rp n (Cm.made n) := by
  obtain ⟨_, _, _, e⟩ := made_is n h
  rw [← e]
  have h0 : Rp n (Cm.new n) := ⟨rfl, fun i x hx => by simp [Cm.new] at hx⟩
  exact ((h0.store _ _).load _).store _ _
end Go.Proofs.Ytkbobgblohohcaa

/- A region that draws its order, by an invariant: no order is gone through. (Free of the program.) -/
import Derived.Test.YthjldlgmfplngaaMo
import Derived.Orders
import Derived.RegionTactic
namespace Go.Mm
open Go.RowKit
section
variable {P : Program} {ops : Array Oper} {Q : Exit → Act → World → Prop} {md : Region.Mode}
/-- how many have not come up -/
def unl (L : Array Bool) : Nat := (L.toList.filter (! ·)).length
theorem filt_set : ∀ (l : List Bool) (i : Nat), l[i]? = some false → ((l.set i true).filter (! ·)).length + 1 = (l.filter (! ·)).length
  | [], i, h => by simp at h
  | b :: l, 0, h => by simp at h; subst h; simp
  | b :: l, i + 1, h => by
    have ih := filt_set l i (by simpa using h)
    rw [List.set_cons_succ, List.filter_cons, List.filter_cons]
    split <;> simp [← ih]
theorem unl_set {L : Array Bool} {i : Nat} (h : L.getD i true = false) : unl (L.setIfInBounds i true) + 1 = unl L := by
  unfold unl
  rw [Array.toList_setIfInBounds]
  refine filt_set _ _ ?_
  have hlt : i < L.size := by
    rcases Nat.lt_or_ge i L.size with h' | h'
    · exact h'
    · simp [Array.getElem?_eq_none h'] at h
  simp [hlt] at h ⊢
  exact h
theorem unl_pos {L : Array Bool} {i : Nat} (h : L.getD i true = false) : 0 < unl L := by have := unl_set h; omega
theorem wpAny_inv {Inv : Array Bool → Act → World → Prop}
    (step : ∀ L a w i, Inv L a w → i ∈ Region.ready md ops L → wpOp P ops Q i (fun a' w' => Inv (L.setIfInBounds i true) a' w') a w)
    (stop : ∀ L a w, Inv L a w → Region.ready md ops L = [] → Q .normal a w) :
    ∀ (fuel : Nat) (L : Array Bool) (a : Act) (w : World), unl L ≤ fuel → Inv L a w → wpAny P md ops Q fuel L a w
  | 0, L, a, w, hf, h => by
    have hr : Region.ready md ops L = [] := by
      refine List.eq_nil_iff_forall_not_mem.2 fun j hj => ?_
      have := unl_pos (mem_ready.1 hj).1
      omega
    exact ⟨hr, stop L a w h hr⟩
  | fuel + 1, L, a, w, hf, h => ⟨stop L a w h, fun i hi => wpOp_mono (fun a' w' h' => wpAny_inv step stop fuel _ a' w' (by have := unl_set (mem_ready.1 hi).1; omega) h') (step L a w i h hi)⟩
theorem unl_le (L : Array Bool) : unl L ≤ L.size := by
  unfold unl
  exact Nat.le_trans (List.length_filter_le _ _) (by simp)
/-- THE LAW -/
theorem wp_region_inv {id : Nat} {a : Act} {w : World} (Inv : Array Bool → Act → World → Prop) (hm : P.follows .mixedOrders = true)
    (start : Inv (Array.replicate ops.size false) a w.drew)
    (step : ∀ L a w i, Inv L a w → i ∈ Region.ready .any ops L → wpOp P ops Q i (fun a' w' => Inv (L.setIfInBounds i true) a' w') a w)
    (stop : ∀ L a w, Inv L a w → Region.ready .any ops L = [] → Q .normal a w) : (Code.region id ops true).wp P Q a w :=
  wp_region_any hm (wpAny_inv step stop _ _ _ _ (Nat.le_trans (unl_le _) (by simp)) start)
def depB (md : Region.Mode) (ops : Array Oper) (i k : Nat) : Bool :=
  match ops[i]? with
  | some o => o.after.any fun e => e.on == k && Region.binds md e
  | none => false
theorem ready_dep {L : Array Bool} {i k : Nat} (hi : i ∈ Region.ready md ops L) (h : depB md ops i k = true) : L.getD k false = true := by
  obtain ⟨_, o, ho, hd⟩ := mem_ready.1 hi
  unfold depB at h
  rw [ho] at h
  obtain ⟨j, hj, hb⟩ := Array.any_eq_true.1 h
  simp only [Bool.and_eq_true, beq_iff_eq] at hb
  have := hd _ (Array.getElem_mem hj) hb.2
  rwa [hb.1] at this
theorem ready_lt {L : Array Bool} {i : Nat} (hi : i ∈ Region.ready md ops L) : i < ops.size := by
  obtain ⟨_, o, ho, _⟩ := mem_ready.1 hi
  exact (Array.getElem?_eq_some_iff.1 ho).1
def earlierB (ops : Array Oper) : Bool := (List.range ops.size).all fun i => match ops[i]? with
  | some o => o.after.all fun e => decide (e.on < i)
  | none => true
/-- nothing may come up: all has -/
theorem all_up {L : Array Bool} (hs : L.size = ops.size) (he : earlierB ops = true) (hr : Region.ready md ops L = []) : ∀ i, i < ops.size → L.getD i false = true := by
  intro i
  induction i using Nat.strongRecOn with
  | _ i ih =>
    intro hi
    cases hL : L.getD i false with
    | true => rfl
    | false =>
      exfalso
      have hLi : L.getD i true = false := by
        have hlt : i < L.size := by omega
        simp [hlt] at hL ⊢
        exact hL
      obtain ⟨o, ho⟩ : ∃ o, ops[i]? = some o := ⟨_, Array.getElem?_eq_getElem hi⟩
      have hmem : i ∈ Region.ready md ops L := by
        refine mem_ready.2 ⟨hLi, o, ho, fun e hee _ => ?_⟩
        have h1 := List.all_eq_true.1 he i (List.mem_range.2 hi)
        rw [ho] at h1
        have h2 := Array.all_eq_true_iff_forall_mem.1 h1 e hee
        have h3 := of_decide_eq_true h2
        exact ih e.on h3 (by omega)
      rw [hr] at hmem
      cases hmem
theorem up_set_ne {L : Array Bool} {i j : Nat} (h : i ≠ j) : (L.setIfInBounds i true).getD j false = L.getD j false := getD_set_ne false h
theorem up_set_same {L : Array Bool} {i : Nat} (h : i < L.size) : (L.setIfInBounds i true).getD i false = true := by simp [h]
theorem not_up {L : Array Bool} {i : Nat} (hi : i ∈ Region.ready md ops L) : L.getD i false = false := by
  have h := (mem_ready.1 hi).1
  have hlt : i < L.size := by
    rcases Nat.lt_or_ge i L.size with h' | h'
    · exact h'
    · simp [Array.getElem?_eq_none h'] at h
  simp [hlt] at h ⊢
  exact h
end
end Go.Mm

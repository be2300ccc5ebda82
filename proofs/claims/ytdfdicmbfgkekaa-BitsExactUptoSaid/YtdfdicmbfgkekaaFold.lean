/- Plain: a set joined, met, taken from, number by number. -/
import Derived.Test.YtdfdicmbfgkekaaAlg
import Derived.Test.YtdfdicmbfgkekaaRef2
namespace Go.Proofs.Ytdfdicmbfgkekaa
open Go.RowKit Go.Mm Go.Bs
theorem addS_at (r : Nat) (S : Nat → Bool) (x i : Nat) : addS r S x i = (S i || (decide (i < r) && decide (x = i))) := by
  unfold addS
  by_cases h : x < r
  · rw [if_pos (by omega), Int.toNat_natCast]; unfold ins
    by_cases e : i = x
    · subst e; simp [h]
    · rw [if_neg e]; have : x ≠ i := fun h => e h.symm; simp [this]
  · rw [if_neg (by omega)]
    by_cases e : x = i
    · subst e; simp [h]
    · simp [e]
theorem dropS_at (r : Nat) (S : Nat → Bool) (x i : Nat) : dropS r S x i = (S i && !(decide (i < r) && decide (x = i))) := by
  unfold dropS
  by_cases h : x < r
  · rw [if_pos (by omega), Int.toNat_natCast]; unfold del
    by_cases e : i = x
    · subst e; simp [h]
    · rw [if_neg e]; have : x ≠ i := fun h => e h.symm; simp [this]
  · rw [if_neg (by omega)]
    by_cases e : x = i
    · subst e; simp [h]
    · simp [e]
theorem addB_at (r : Nat) (S : Nat → Bool) (x : Nat) : addB r S x = (decide (x < r) && !S x) := by
  unfold addB; rw [Int.toNat_natCast]
  congr 1
  by_cases h : x < r
  · rw [decide_eq_true h, decide_eq_true (by omega)]
  · rw [decide_eq_false h, decide_eq_false (by omega)]
theorem hasB_at (r : Nat) (S : Nat → Bool) (x : Nat) : hasB r S x = (decide (x < r) && S x) := by
  unfold hasB; rw [Int.toNat_natCast]
  congr 1
  by_cases h : x < r
  · rw [decide_eq_true h, decide_eq_true (by omega)]
  · rw [decide_eq_false h, decide_eq_false (by omega)]
/-- one more put in -/
def jn (r : Nat) (p : (Nat → Bool) × Bool) (x : Nat) : (Nat → Bool) × Bool := (addS r p.1 x, p.2 || addB r p.1 x)
def dl (r : Nat) (p : (Nat → Bool) × Bool) (x : Nat) : (Nat → Bool) × Bool := (dropS r p.1 x, p.2 || hasB r p.1 x)
def mt (r : Nat) (T : Nat → Bool) (p : (Nat → Bool) × Bool) (x : Nat) : (Nat → Bool) × Bool := if T x then p else (dropS r p.1 x, true)
theorem jn_set (r : Nat) : ∀ (l : List Nat) (p : (Nat → Bool) × Bool) (i : Nat), (l.foldl (jn r) p).1 i = (p.1 i || (decide (i < r) && l.any fun x => decide (x = i)))
  | [], p, i => by simp
  | x :: l, p, i => by
    rw [List.foldl_cons, jn_set r l]
    show (addS r p.1 x i || _) = _
    rw [addS_at, List.any_cons]
    cases p.1 i <;> cases decide (i < r) <;> cases decide (x = i) <;> simp
theorem dl_set (r : Nat) : ∀ (l : List Nat) (p : (Nat → Bool) × Bool) (i : Nat), (l.foldl (dl r) p).1 i = (p.1 i && !(decide (i < r) && l.any fun x => decide (x = i)))
  | [], p, i => by simp
  | x :: l, p, i => by
    rw [List.foldl_cons, dl_set r l]
    show (dropS r p.1 x i && _) = _
    rw [dropS_at, List.any_cons]
    cases p.1 i <;> cases decide (i < r) <;> cases decide (x = i) <;> simp
theorem mt_set (r : Nat) (T : Nat → Bool) : ∀ (l : List Nat) (p : (Nat → Bool) × Bool) (i : Nat), (l.foldl (mt r T) p).1 i = (p.1 i && !(decide (i < r) && (!T i && l.any fun x => decide (x = i))))
  | [], p, i => by simp
  | x :: l, p, i => by
    rw [List.foldl_cons, mt_set r T l, List.any_cons]
    unfold mt
    by_cases e : x = i
    · subst e
      cases ht : T x
      · simp only [Bool.false_eq_true, if_false, dropS_at]
        cases p.1 x <;> cases decide (x < r) <;> simp
      · simp
    · cases T x
      · simp only [Bool.false_eq_true, if_false, dropS_at]
        simp [e]
      · simp [e]
theorem bj1 : ∀ q d e a : Bool, ((q || (d && e)) || (d && a)) ≠ (q || (d && e)) → ((q || (d && e)) || (d && a)) ≠ q := by decide
theorem bj2 : ∀ q d a : Bool, d = true → q = false → ((q || (d && true)) || (d && a)) ≠ q := by decide
theorem bj3 : ∀ q d a : Bool, ((q || (d && false)) || (d && a)) ≠ q → ((q || (d && false)) || (d && a)) ≠ (q || (d && false)) := by decide
theorem bj4 : ∀ q d e a : Bool, ((q || (d && e)) || (d && a)) ≠ q → q = false := by decide
theorem bd1 : ∀ q d e a : Bool, ((q && !(d && e)) && !(d && a)) ≠ (q && !(d && e)) → ((q && !(d && e)) && !(d && a)) ≠ q := by decide
theorem bd2 : ∀ q d a : Bool, d = true → q = true → ((q && !(d && true)) && !(d && a)) ≠ q := by decide
theorem bd3 : ∀ q d a : Bool, ((q && !(d && false)) && !(d && a)) ≠ q → ((q && !(d && false)) && !(d && a)) ≠ (q && !(d && false)) := by decide
theorem bd4 : ∀ q d e a : Bool, ((q && !(d && e)) && !(d && a)) ≠ q → q = true := by decide
theorem jn_flag (r : Nat) : ∀ (l : List Nat) (p : (Nat → Bool) × Bool), (l.foldl (jn r) p).2 = true ↔ p.2 = true ∨ ∃ i, i < r ∧ (l.foldl (jn r) p).1 i ≠ p.1 i
  | [], p => by simp
  | x :: l, p => by
    have hs := jn_set r l (jn r p x)
    rw [List.foldl_cons, jn_flag r l]
    have h1 : (jn r p x).2 = (p.2 || addB r p.1 x) := rfl
    have h2 : ∀ i, (jn r p x).1 i = (p.1 i || (decide (i < r) && decide (x = i))) := fun i => addS_at r p.1 x i
    rw [h1, Bool.or_eq_true, addB_at]
    constructor
    · rintro ((h | h) | ⟨i, hi, h⟩)
      · exact .inl h
      · simp at h
        refine .inr ⟨x, h.1, ?_⟩
        rw [hs, h2, decide_eq_true (rfl : x = x)]
        exact bj2 _ _ _ (decide_eq_true h.1) h.2
      · refine .inr ⟨i, hi, ?_⟩
        rw [hs, h2] at h
        rw [hs, h2]
        exact bj1 _ _ _ _ h
    · rintro (h | ⟨i, hi, h⟩)
      · exact .inl (.inl h)
      · rw [hs, h2] at h
        by_cases e : x = i
        · subst e
          refine .inl (.inr ?_)
          rw [bj4 _ _ _ _ h, decide_eq_true hi]; rfl
        · refine .inr ⟨i, hi, ?_⟩
          rw [hs, h2]
          rw [decide_eq_false e] at h ⊢
          exact bj3 _ _ _ h
theorem dl_flag (r : Nat) : ∀ (l : List Nat) (p : (Nat → Bool) × Bool), (l.foldl (dl r) p).2 = true ↔ p.2 = true ∨ ∃ i, i < r ∧ (l.foldl (dl r) p).1 i ≠ p.1 i
  | [], p => by simp
  | x :: l, p => by
    have hs := dl_set r l (dl r p x)
    rw [List.foldl_cons, dl_flag r l]
    have h1 : (dl r p x).2 = (p.2 || hasB r p.1 x) := rfl
    have h2 : ∀ i, (dl r p x).1 i = (p.1 i && !(decide (i < r) && decide (x = i))) := fun i => dropS_at r p.1 x i
    rw [h1, Bool.or_eq_true, hasB_at]
    constructor
    · rintro ((h | h) | ⟨i, hi, h⟩)
      · exact .inl h
      · simp at h
        refine .inr ⟨x, h.1, ?_⟩
        rw [hs, h2, decide_eq_true (rfl : x = x)]
        exact bd2 _ _ _ (decide_eq_true h.1) h.2
      · refine .inr ⟨i, hi, ?_⟩
        rw [hs, h2] at h
        rw [hs, h2]
        exact bd1 _ _ _ _ h
    · rintro (h | ⟨i, hi, h⟩)
      · exact .inl (.inl h)
      · rw [hs, h2] at h
        by_cases e : x = i
        · subst e
          refine .inl (.inr ?_)
          rw [bd4 _ _ _ _ h, decide_eq_true hi]; rfl
        · refine .inr ⟨i, hi, ?_⟩
          rw [hs, h2]
          rw [decide_eq_false e] at h ⊢
          exact bd3 _ _ _ h
theorem mt_flag (r : Nat) (T : Nat → Bool) : ∀ (l : List Nat) (p : (Nat → Bool) × Bool), (l.foldl (mt r T) p).2 = true ↔ p.2 = true ∨ ∃ x, x ∈ l ∧ T x = false
  | [], p => by simp
  | x :: l, p => by
    rw [List.foldl_cons, mt_flag r T l]
    unfold mt
    cases ht : T x
    · simp [ht]
    · simp [ht]
theorem any_ml (T : Nat → Bool) (q i : Nat) : ((ml T q).any fun x => decide (x = i)) = (decide (i < q) && T i) := by
  rw [Bool.eq_iff_iff, List.any_eq_true]
  constructor
  · rintro ⟨x, hx, h⟩
    have := of_decide_eq_true h
    subst this
    obtain ⟨h1, h2⟩ := ml_mem.1 hx
    simp [h1, h2]
  · intro h
    simp at h
    exact ⟨i, ml_mem.2 h, decide_eq_true rfl⟩
/-- joined: the same number by number and word by word -/
theorem joined (r q : Nat) (S T : Nat → Bool) (hS : ∀ i, r ≤ i → S i = false) (hT : ∀ i, q ≤ i → T i = false) : (ml T q).foldl (jn r) (S, false) = (cup S (cap T (full r)), chg (cup S (cap T (full r))) S (nw r)) := by
  have h1 : ((ml T q).foldl (jn r) (S, false)).1 = cup S (cap T (full r)) := by
    funext i
    rw [jn_set, any_ml]
    show (S i || _) = (S i || (T i && decide (i < r)))
    rcases Nat.lt_or_ge i q with hi | hi
    · rw [decide_eq_true hi, Bool.true_and, Bool.and_comm]
    · rw [hT i hi, Bool.and_false, Bool.and_false, Bool.false_and]
  refine Prod.ext h1 ?_
  show ((ml T q).foldl (jn r) (S, false)).2 = _
  have hR : ∀ i, r ≤ i → cup S (cap T (full r)) i = false := fun i hi => by
    show (S i || (T i && decide (i < r))) = false
    rw [hS i hi, decide_eq_false (by omega), Bool.and_false]; rfl
  rw [Bool.eq_iff_iff, jn_flag, chg_any hR hS, h1]
  simp
theorem taken (r q : Nat) (S T : Nat → Bool) (hS : ∀ i, r ≤ i → S i = false) (hT : ∀ i, q ≤ i → T i = false) : (ml T q).foldl (dl r) (S, false) = (less S T, chg (less S T) S (nw r)) := by
  have h1 : ((ml T q).foldl (dl r) (S, false)).1 = less S T := by
    funext i
    rw [dl_set, any_ml]
    show (S i && !_) = (S i && !T i)
    rcases Nat.lt_or_ge i r with hr | hr
    · rw [decide_eq_true hr, Bool.true_and]
      rcases Nat.lt_or_ge i q with hi | hi
      · rw [decide_eq_true hi, Bool.true_and]
      · rw [hT i hi, Bool.and_false]
    · rw [hS i hr, Bool.false_and, Bool.false_and]
  refine Prod.ext h1 ?_
  show ((ml T q).foldl (dl r) (S, false)).2 = _
  have hR : ∀ i, r ≤ i → less S T i = false := fun i hi => by show (S i && _) = false; rw [hS i hi]; rfl
  rw [Bool.eq_iff_iff, dl_flag, chg_any hR hS, h1]
  simp
theorem met (r : Nat) (S T : Nat → Bool) (hS : ∀ i, r ≤ i → S i = false) : (ml S r).foldl (mt r T) (S, false) = (cap S T, chg (cap S T) S (nw r)) := by
  have h1 : ((ml S r).foldl (mt r T) (S, false)).1 = cap S T := by
    funext i
    rw [mt_set, any_ml]
    show (S i && !_) = (S i && T i)
    rcases Nat.lt_or_ge i r with hr | hr
    · rw [decide_eq_true hr]; cases S i <;> cases T i <;> rfl
    · rw [hS i hr]; rfl
  refine Prod.ext h1 ?_
  show ((ml S r).foldl (mt r T) (S, false)).2 = _
  have hR : ∀ i, r ≤ i → cap S T i = false := fun i hi => by show (S i && _) = false; rw [hS i hi]; rfl
  rw [Bool.eq_iff_iff, mt_flag, chg_any hR hS]
  constructor
  · rintro (h | ⟨x, hx, h⟩)
    · cases h
    · obtain ⟨h2, h3⟩ := ml_mem.1 hx
      exact ⟨x, h2, by show (S x && T x) ≠ S x; rw [h3, h]; decide⟩
  · rintro ⟨i, hi, h⟩
    refine .inr ⟨i, ?_, ?_⟩
    · refine ml_mem.2 ⟨hi, ?_⟩
      cases hs : S i
      · exact absurd (show (S i && T i) = S i by rw [hs]; rfl) h
      · rfl
    · cases ht : T i
      · rfl
      · exact absurd (show (S i && T i) = S i by rw [ht, Bool.and_true]) h
end Go.Proofs.Ytdfdicmbfgkekaa

/- What a cache holds: of each triple one decision at most, and what Get and Put turn of it. -/
import Derived.Test.YthojgfnaanckeaaLast
namespace Go.Proofs.Ythojgfnaanckeaa
open Go.RowKit Go.Mm
/-- which decision is held of a triple, in a row -/
def RIn (l : List Pl) (s o a tag : Int) (al : Bool) : Prop := ∃ (k : Nat) (p : Pl), l[k]? = some p ∧ p.key s o a = true ∧ p.tag = tag ∧ p.allowed = al
def RUniq (l : List Pl) : Prop := ∀ (s o a : Int) (j k : Nat) (p q : Pl), l[j]? = some p → l[k]? = some q → p.key s o a = true → q.key s o a = true → j = k
def In (S : St) (s o a tag : Int) (al : Bool) : Prop := ∃ r, S.rows[spot S.rows.length s o a]? = some r ∧ RIn r.1 s o a tag al
def Uniq (S : St) : Prop := ∀ (i : Nat) (r : List Pl × Nat), S.rows[i]? = some r → RUniq r.1
theorem key_of {p : Pl} {s o a : Int} (h : p.key s o a = true) : p.held = true ∧ p.s = s ∧ p.o = o ∧ p.a = a := by
  unfold Pl.key at h
  simp only [Bool.and_eq_true, beq_iff_eq] at h
  exact ⟨h.1, h.2.1.1, h.2.1.2, h.2.2⟩
theorem none_key (s o a : Int) : Pl.none.key s o a = false := rfl
theorem set_get {l : List Pl} {k j : Nat} {q p : Pl} (h : (l.set k q)[j]? = some p) : (j = k ∧ p = q) ∨ (j ≠ k ∧ l[j]? = some p) := by
  rw [List.getElem?_set] at h
  split at h
  · rename_i e
    split at h
    · cases h; exact .inl ⟨e.symm, rfl⟩
    · cases h
  · rename_i e; exact .inr ⟨fun h => e h.symm, h⟩
/-- a row where the place k turned to q, which has the key of what was there or none that is there -/
theorem RUniq.set {l : List Pl} (h : RUniq l) {k : Nat} {q : Pl} (hq : ∀ s o a, q.key s o a = true → ∀ (j : Nat) (p : Pl), l[j]? = some p → p.key s o a = true → j = k) : RUniq (l.set k q) := by
  intro s o a j j' p p' hj hj' hp hp'
  rcases set_get hj with ⟨rfl, rfl⟩ | ⟨e, hj2⟩ <;> rcases set_get hj' with ⟨rfl, rfl⟩ | ⟨e', hj2'⟩
  · rfl
  · exact (hq s o a hp j' p' hj2' hp').symm
  · exact hq s o a hp' j p hj2 hp
  · exact h s o a j j' p p' hj2 hj2' hp hp'
theorem Uniq.set {S : St} (h : Uniq S) {i : Nat} {r : List Pl × Nat} (hr : RUniq r.1) (x y z u : Int) : Uniq ⟨S.rows.set i r, x, y, z, u⟩ := by
  intro j q hj
  simp only [List.getElem?_set] at hj
  split at hj
  · split at hj
    · cases hj; exact hr
    · cases hj
  · exact h j q hj
theorem clock_get (n : Nat) : ∀ (f : Nat) (l : List Pl) (h : Nat) (j : Nat) (p : Pl), (clock n f l h).1[j]? = some p → ∃ q, l[j]? = some q ∧ { q with marked := p.marked } = p
  | 0, l, h, j, p, hp => ⟨p, hp, rfl⟩
  | f + 1, l, h, j, p, hp => by
    unfold clock at hp
    split at hp
    · rename_i q0 hq0
      split at hp
      · obtain ⟨q, h1, h2⟩ := clock_get n f _ _ j p hp
        rcases set_get h1 with ⟨rfl, rfl⟩ | ⟨_, h1⟩
        · exact ⟨q0, hq0, by rw [← h2]⟩
        · exact ⟨q, h1, h2⟩
      · exact ⟨p, hp, rfl⟩
    · exact ⟨p, hp, rfl⟩
theorem key_marked {p q : Pl} (h : { q with marked := p.marked } = p) (s o a : Int) : q.key s o a = p.key s o a := by rw [← h]; rfl
theorem RUniq.clock {l : List Pl} (hu : RUniq l) (n f h : Nat) : RUniq (clock n f l h).1 := by
  intro s o a j k p q hj hk hp hq
  obtain ⟨p', a1, a2⟩ := clock_get n f l h j p hj
  obtain ⟨q', b1, b2⟩ := clock_get n f l h k q hk
  exact hu s o a j k p' q' a1 b1 (by rw [key_marked a2]; exact hp) (by rw [key_marked b2]; exact hq)
theorem find_no {l : List Pl} {s o a : Int} (h : find l s o a = none) : ∀ (j : Nat) (p : Pl), l[j]? = some p → p.key s o a = false := by
  intro j p hp
  unfold find at h
  rw [List.findIdx?_eq_none_iff] at h
  exact h p (List.mem_of_getElem? hp)
theorem key_same {p : Pl} {s o a s' o' a' : Int} (h : p.key s o a = true) (h' : p.key s' o' a' = true) : s = s' ∧ o = o' ∧ a = a' := by
  obtain ⟨_, a1, a2, a3⟩ := key_of h
  obtain ⟨_, b1, b2, b3⟩ := key_of h'
  exact ⟨a1.symm.trans b1, a2.symm.trans b2, a3.symm.trans b3⟩
theorem fresh_key {s o a tag : Int} {al : Bool} {s' o' a' : Int} (h : (⟨true, s, o, a, tag, al, false⟩ : Pl).key s' o' a' = true) : s = s' ∧ o = o' ∧ a = a' := by
  obtain ⟨_, b1, b2, b3⟩ := key_of h
  exact ⟨b1, b2, b3⟩
theorem fresh_self (s o a tag : Int) (al : Bool) : (⟨true, s, o, a, tag, al, false⟩ : Pl).key s o a = true := by simp [Pl.key]
theorem getS_uniq {S : St} (tag s o a : Int) (h : Uniq S) : Uniq (getS S tag s o a).2 := by
  unfold getS
  split
  · exact h
  · rename_i l hand hr
    split
    · exact h
    · rename_i k hf
      split
      · exact h
      · rename_i p hp
        have hu := h _ _ hr
        split
        · refine h.set (r := (_, hand)) ?_ _ _ _ _
          exact hu.set fun s' o' a' hq j p' hj hp' => hu s' o' a' j k p' p hj hp hp' hq
        · refine h.set (r := (_, hand)) ?_ _ _ _ _
          exact hu.set fun s' o' a' hq => by rw [none_key] at hq; cases hq
theorem putS_uniq {n : Nat} {S : St} (tag s o a : Int) (al : Bool) (h : Uniq S) : Uniq (putS n S tag s o a al) := by
  unfold putS
  split
  · exact h
  · rename_i l hand hr
    have hu := h _ _ hr
    split
    · rename_i k hf
      split
      · exact h
      · rename_i p hp
        refine h.set (r := (_, hand)) ?_ _ _ _ _
        exact hu.set fun s' o' a' hq j p' hj hp' => hu s' o' a' j k p' p hj hp hp' hq
    · rename_i hf
      have hno := find_no hf
      split
      · refine h.set (r := (_, hand)) ?_ _ _ _ _
        refine hu.set fun s' o' a' hq j p' hj hp' => ?_
        obtain ⟨rfl, rfl, rfl⟩ := fresh_key hq
        rw [hno j p' hj] at hp'; cases hp'
      · refine h.set (r := (_, _)) ?_ _ _ _ _
        refine (hu.clock n n hand).set fun s' o' a' hq j p' hj hp' => ?_
        obtain ⟨rfl, rfl, rfl⟩ := fresh_key hq
        obtain ⟨q, q1, q2⟩ := clock_get n n l hand j p' hj
        rw [← key_marked q2, hno j q q1] at hp'; cases hp'
theorem new_uniq (s n : Nat) : Uniq (St.new s n) := by
  intro i r hi s' o a j k p q hj hk hp hq
  simp only [St.new, List.getElem?_replicate] at hi
  split at hi
  · cases hi
    simp only [List.getElem?_replicate] at hj
    split at hj
    · cases hj; rw [none_key] at hp; cases hp
    · cases hj
  · cases hi
theorem new_in {s n : Nat} {s' o a tag : Int} {al : Bool} : ¬ In (St.new s n) s' o a tag al := by
  rintro ⟨r, hr, k, p, hp, hk, _⟩
  simp only [St.new, List.getElem?_replicate] at hr
  split at hr
  · cases hr
    simp only [List.getElem?_replicate] at hp
    split at hp
    · cases hp; rw [none_key] at hk; cases hk
    · cases hp
  · cases hr
/-- what is held behind a turn of one row -/
theorem In.set {S : St} {i : Nat} {l l' : List Pl} {h h' : Nat} {x y z u : Int} {s o a tag : Int} {al : Bool} (hr : S.rows[i]? = some (l, h)) (hin : In ⟨S.rows.set i (l', h'), x, y, z, u⟩ s o a tag al) :
    (spot S.rows.length s o a = i ∧ RIn l' s o a tag al) ∨ (spot S.rows.length s o a ≠ i ∧ In S s o a tag al) := by
  obtain ⟨r, h1, h2⟩ := hin
  simp only [List.length_set, List.getElem?_set] at h1
  split at h1
  · rename_i e
    split at h1
    · cases h1; exact .inl ⟨e.symm, h2⟩
    · cases h1
  · rename_i e; exact .inr ⟨fun h => e h.symm, r, h1, h2⟩
theorem In.mk' {S : St} {i : Nat} {l l' : List Pl} {h h' : Nat} {x y z u : Int} {s o a tag : Int} {al : Bool} (hr : S.rows[i]? = some (l, h)) (hs : spot S.rows.length s o a = i) (hin : RIn l' s o a tag al) : In ⟨S.rows.set i (l', h'), x, y, z, u⟩ s o a tag al := by
  refine ⟨(l', h'), ?_, hin⟩
  simp only [List.length_set, hs]
  rw [List.getElem?_set_self (List.getElem?_eq_some_iff.1 hr).1]
/-- a Get holds no more than was held -/
theorem getS_in {S : St} {tag s o a : Int} {s' o' a' t : Int} {al : Bool} (h : In (getS S tag s o a).2 s' o' a' t al) : In S s' o' a' t al := by
  unfold getS at h
  split at h
  · exact h
  · rename_i l hand hr
    split at h
    · exact h
    · rename_i k hf
      split at h
      · exact h
      · rename_i p hp
        split at h
        · rcases In.set hr h with ⟨e, j, q, hj, hk, ht, ha⟩ | ⟨_, h⟩
          · refine ⟨(l, hand), by rw [e]; exact hr, ?_⟩
            rcases set_get hj with ⟨rfl, rfl⟩ | ⟨_, hj⟩
            · exact ⟨j, p, hp, hk, ht, ha⟩
            · exact ⟨j, q, hj, hk, ht, ha⟩
          · exact h
        · rcases In.set hr h with ⟨e, j, q, hj, hk, ht, ha⟩ | ⟨_, h⟩
          · refine ⟨(l, hand), by rw [e]; exact hr, ?_⟩
            rcases set_get hj with ⟨rfl, rfl⟩ | ⟨_, hj⟩
            · rw [none_key] at hk; cases hk
            · exact ⟨j, q, hj, hk, ht, ha⟩
          · exact h
/-- a Get that is a hit tells what is held -/
theorem getS_hit {S : St} {tag s o a : Int} (h : (getS S tag s o a).1.2 = true) : In S s o a tag (getS S tag s o a).1.1 := by
  unfold getS at h ⊢
  split at h
  · cases h
  · rename_i l hand hr
    split at h
    · cases h
    · rename_i k hf
      split at h
      · cases h
      · rename_i p hp
        split at h
        · rename_i ht
          obtain ⟨p', hp', hk⟩ := find_lt hf
          rw [hp] at hp'; cases hp'
          refine ⟨(l, hand), hr, k, p, hp, hk, ht, ?_⟩
          simp only [if_pos ht]
        · cases h
theorem getS_miss {S : St} {tag s o a : Int} (h : (getS S tag s o a).1.2 = false) : (getS S tag s o a).1.1 = false := by
  unfold getS at h ⊢
  split
  · rfl
  · rename_i l hand hr
    simp only [hr] at h
    split
    · rfl
    · rename_i k hf
      simp only [hf] at h
      split
      · rfl
      · rename_i p hp
        simp only [hp] at h
        split
        · rename_i ht
          rw [if_pos ht] at h; cases h
        · rfl
/-- what is held is told, where its tag is asked -/
theorem getS_told {S : St} {tag s o a : Int} {al : Bool} (hu : Uniq S) (h : In S s o a tag al) : (getS S tag s o a).1 = (al, true) := by
  obtain ⟨⟨l, hand⟩, hr, j, q, hj, hk, ht, ha⟩ := h
  cases hf : find l s o a with
  | none => rw [find_no hf j q hj] at hk; cases hk
  | some k =>
    obtain ⟨p, hp, hpk⟩ := find_lt hf
    have := hu _ _ hr s o a j k q p hj hp hk hpk
    subst this
    rw [hj] at hp; cases hp
    unfold getS
    simp only [hr, hf, hj, if_pos ht, ha]
/-- behind a Put: its own decision, and of others no more than was held -/
theorem putS_in {n : Nat} {S : St} {tag s o a : Int} {al : Bool} {s' o' a' t : Int} {al' : Bool} (hu : Uniq S) (hl : 1 ≤ S.rows.length) (h : In (putS n S tag s o a al) s' o' a' t al') :
    ((s' = s ∧ o' = o ∧ a' = a) ∧ t = tag ∧ al' = al) ∨ (¬ (s' = s ∧ o' = o ∧ a' = a) ∧ In S s' o' a' t al') := by
  have hlt := spot_lt (n := S.rows.length) s o a hl
  obtain ⟨⟨l, hand⟩, hr⟩ : ∃ r, S.rows[spot S.rows.length s o a]? = some r := ⟨_, List.getElem?_eq_getElem hlt⟩
  have hur := hu _ _ hr
  have other : ∀ (X : Prop), spot S.rows.length s' o' a' ≠ spot S.rows.length s o a → In S s' o' a' t al' → X ∨ (¬ (s' = s ∧ o' = o ∧ a' = a) ∧ In S s' o' a' t al') := by
    intro X h1 h2
    exact .inr ⟨fun e => h1 (by rw [e.1, e.2.1, e.2.2]), h2⟩
  unfold putS at h
  simp only [hr] at h
  cases hf : find l s o a with
  | some k =>
    obtain ⟨p, hp, hpk⟩ := find_lt hf
    simp only [hf, hp] at h
    rcases In.set hr h with ⟨e, j, q, hj, hk, ht, ha⟩ | ⟨e, h⟩
    · rcases set_get hj with ⟨rfl, rfl⟩ | ⟨hne, hj⟩
      · have hpk' : p.key s' o' a' = true := hk
        obtain ⟨rfl, rfl, rfl⟩ := key_same hpk' hpk
        exact .inl ⟨⟨rfl, rfl, rfl⟩, ht.symm, ha.symm⟩
      · refine .inr ⟨fun e' => ?_, (l, hand), by rw [e]; exact hr, j, q, hj, hk, ht, ha⟩
        obtain ⟨rfl, rfl, rfl⟩ := e'
        exact hne (hur _ _ _ j k q p hj hp hk hpk)
    · exact other _ e h
  | none =>
    have hno := find_no hf
    simp only [hf] at h
    cases hfi : l.findIdx? Pl.isNone with
    | some k =>
      simp only [hfi] at h
      rcases In.set hr h with ⟨e, j, q, hj, hk, ht, ha⟩ | ⟨e, h⟩
      · rcases set_get hj with ⟨rfl, rfl⟩ | ⟨hne, hj2⟩
        · obtain ⟨rfl, rfl, rfl⟩ := fresh_key hk
          exact .inl ⟨⟨rfl, rfl, rfl⟩, ht.symm, ha.symm⟩
        · refine .inr ⟨fun e' => ?_, (l, hand), by rw [e]; exact hr, j, q, hj2, hk, ht, ha⟩
          obtain ⟨rfl, rfl, rfl⟩ := e'
          rw [hno j q hj2] at hk; cases hk
      · exact other _ e h
    | none =>
      simp only [hfi] at h
      rcases In.set hr h with ⟨e, j, q, hj, hk, ht, ha⟩ | ⟨e, h⟩
      · rcases set_get hj with ⟨rfl, rfl⟩ | ⟨hne, hj2⟩
        · obtain ⟨rfl, rfl, rfl⟩ := fresh_key hk
          exact .inl ⟨⟨rfl, rfl, rfl⟩, ht.symm, ha.symm⟩
        · obtain ⟨q', q1, q2⟩ := clock_get n n l hand j q hj2
          have hk' : q'.key s' o' a' = true := by rw [key_marked q2]; exact hk
          refine .inr ⟨fun e' => ?_, (l, hand), by rw [e]; exact hr, j, q', q1, hk', by rw [← ht, ← q2], by rw [← ha, ← q2]⟩
          obtain ⟨rfl, rfl, rfl⟩ := e'
          rw [hno j q' q1] at hk'; cases hk'
      · exact other _ e h
theorem clock_hand {n : Nat} (hn : 1 ≤ n) : ∀ (f : Nat) (l : List Pl) (h : Nat), h < n → (clock n f l h).2 < n
  | 0, l, h, hh => hh
  | f + 1, l, h, hh => by
    unfold clock
    split
    · split
      · exact clock_hand hn f _ _ (Nat.mod_lt _ (by omega))
      · exact hh
    · exact hh
/-- a Put is held -/
theorem putS_held {n : Nat} {S : St} (tag s o a : Int) (al : Bool) (ho : S.ok n) : In (putS n S tag s o a al) s o a tag al := by
  have hlt := spot_lt (n := S.rows.length) s o a ho.1
  obtain ⟨⟨l, hand⟩, hr⟩ : ∃ r, S.rows[spot S.rows.length s o a]? = some r := ⟨_, List.getElem?_eq_getElem hlt⟩
  obtain ⟨hl, hh⟩ := ho.2.2.2.2 _ _ hr
  unfold putS
  simp only [hr]
  cases hf : find l s o a with
  | some k =>
    obtain ⟨p, hp, hpk⟩ := find_lt hf
    simp only [hp]
    exact In.mk' hr rfl ⟨k, _, List.getElem?_set_self (List.getElem?_eq_some_iff.1 hp).1, hpk, rfl, rfl⟩
  | none =>
    simp only []
    cases hfi : l.findIdx? Pl.isNone with
    | some k =>
      have hk : k < l.length := by
        rw [List.findIdx?_eq_some_iff_getElem] at hfi
        exact hfi.1
      exact In.mk' hr rfl ⟨k, _, List.getElem?_set_self hk, fresh_self .., rfl, rfl⟩
    | none =>
      refine In.mk' hr rfl ⟨(clock n n l hand).2, _, List.getElem?_set_self ?_, fresh_self .., rfl, rfl⟩
      rw [clock_len, hl]
      exact clock_hand ho.2.2.1 n l hand hh
end Go.Proofs.Ythojgfnaanckeaa

/- The plain law of AvcChance: what was hit gets a second chance. -/
import Derived.Test.YthojgfnaanckeaaHold
namespace Go.Proofs.Ythojgfnaanckeaa
open Go.RowKit Go.Mm
attribute [local irreducible] spot hsh
/-- a Get drops nothing but its own triple's decision of another tag -/
theorem getS_keep {S : St} {tag s o a : Int} {s' o' a' t : Int} {al : Bool} (h : In S s' o' a' t al) (hk : ¬ (s' = s ∧ o' = o ∧ a' = a) ∨ t = tag) : In (getS S tag s o a).2 s' o' a' t al := by
  unfold getS
  split
  · exact h
  · rename_i l hand hr
    split
    · exact h
    · rename_i k hf
      split
      · exact h
      · rename_i p hp
        obtain ⟨p', hp', hpk⟩ := find_lt hf
        rw [hp] at hp'; cases hp'
        obtain ⟨r, h1, j, q, hj, hq, ht, ha⟩ := h
        by_cases hs : spot S.rows.length s' o' a' = spot S.rows.length s o a
        · rw [hs, hr] at h1; cases h1
          split
          · refine In.mk' hr hs ?_
            by_cases hjk : j = k
            · subst hjk
              simp only at hj
              rw [hp] at hj; cases hj
              exact ⟨j, _, List.getElem?_set_self (List.getElem?_eq_some_iff.1 hp).1, hq, ht, ha⟩
            · exact ⟨j, q, by rw [List.getElem?_set_ne (fun e => hjk e.symm)]; exact hj, hq, ht, ha⟩
          · rename_i hne
            refine In.mk' hr hs ?_
            by_cases hjk : j = k
            · subst hjk
              simp only at hj
              rw [hp] at hj; cases hj
              obtain ⟨rfl, rfl, rfl⟩ := key_same hq hpk
              rcases hk with hk | hk
              · exact absurd ⟨rfl, rfl, rfl⟩ hk
              · exact absurd (ht.trans hk) hne
            · exact ⟨j, q, by rw [List.getElem?_set_ne (fun e => hjk e.symm)]; exact hj, hq, ht, ha⟩
        · have key : ∀ r' x y z u, In ⟨S.rows.set (spot S.rows.length s o a) r', x, y, z, u⟩ s' o' a' t al := by
            intro r' x y z u
            refine ⟨r, ?_, j, q, hj, hq, ht, ha⟩
            simp only [List.length_set]
            rw [List.getElem?_set_ne (fun e => hs e.symm)]; exact h1
          split
          · exact key _ _ _ _ _
          · exact key _ _ _ _ _
theorem getS_ev (S : St) (tag s o a : Int) : (getS S tag s o a).2.ev = S.ev := by
  unfold getS
  repeat' split
  all_goals rfl
theorem getS_len (S : St) (tag s o a : Int) : (getS S tag s o a).2.rows.length = S.rows.length := by
  unfold getS
  repeat' split
  all_goals first | rfl | simp
theorem putS_len (n : Nat) (S : St) (tag s o a : Int) (al : Bool) : (putS n S tag s o a al).rows.length = S.rows.length := by
  unfold putS full
  repeat' split
  all_goals first | rfl | simp
/-- what is not held is not told -/
theorem getS_not {S : St} {tag s o a : Int} (h : ∀ t al, ¬ In S s o a t al) : (getS S tag s o a).1 = (false, false) := by
  cases e : (getS S tag s o a).1.2 with
  | true => exact absurd (getS_hit e) (h _ _)
  | false => exact Prod.ext (getS_miss e) e
/-- a set whose first j places hold the triples (i, 0, 0), marked as μ says; the others are free -/
def Filled (w j : Nat) (tag : Int) (μ : Nat → Bool) (l : List Pl) : Prop :=
  l.length = w ∧ ∀ i, i < w → ∃ p, l[i]? = some p ∧ (i < j → p.key i 0 0 = true ∧ p.tag = tag ∧ p.marked = μ i) ∧ (¬ i < j → p = Pl.none)
theorem filled_new (w : Nat) (tag : Int) (μ : Nat → Bool) : Filled w 0 tag μ (List.replicate w Pl.none) :=
  ⟨by simp, fun i hi => ⟨Pl.none, by rw [List.getElem?_replicate, if_pos hi], fun h => absurd h (by omega), fun _ => rfl⟩⟩
theorem find_at {l : List Pl} (hu : RUniq l) {k : Nat} {p : Pl} {s o a : Int} (hp : l[k]? = some p) (hk : p.key s o a = true) : find l s o a = some k := by
  cases hf : find l s o a with
  | none => rw [find_no hf k p hp] at hk; cases hk
  | some j =>
    obtain ⟨q, hq, hqk⟩ := find_lt hf
    rw [hu s o a j k q p hq hp hqk hk]
theorem find_out {w j : Nat} {tag : Int} {μ : Nat → Bool} {l : List Pl} (h : Filled w j tag μ l) {i : Nat} (hi : j ≤ i) : find l i 0 0 = none := by
  cases hf : find l (i : Int) 0 0 with
  | none => rfl
  | some k =>
    obtain ⟨q, hq, hqk⟩ := find_lt hf
    have hk : k < w := by rw [← h.1]; exact (List.getElem?_eq_some_iff.1 hq).1
    obtain ⟨p, hp, h1, h2⟩ := h.2 k hk
    rw [hq] at hp; cases hp
    by_cases hkj : k < j
    · obtain ⟨e, _, _⟩ := key_same hqk (h1 hkj).1
      omega
    · rw [h2 hkj, none_key] at hqk; cases hqk
theorem spot_one (s o a : Int) : spot 1 s o a = 0 := by have := spot_lt (n := 1) s o a (Nat.le_refl _); omega
theorem key_notNone {p : Pl} {s o a : Int} (h : p.key s o a = true) : p.isNone = false := by
  obtain ⟨h1, _⟩ := key_of h
  unfold Pl.isNone
  rw [h1]; rfl
theorem row_one {l : List Pl} {h : Nat} {x y z u : Int} (s o a : Int) : (⟨[(l, h)], x, y, z, u⟩ : St).rows[spot (⟨[(l, h)], x, y, z, u⟩ : St).rows.length s o a]? = some (l, h) := by
  have : spot (⟨[(l, h)], x, y, z, u⟩ : St).rows.length s o a = 0 := spot_one s o a
  rw [this]; rfl
theorem set_one {l : List Pl} {h : Nat} {x y z u : Int} (s o a : Int) (r : List Pl × Nat) : (⟨[(l, h)], x, y, z, u⟩ : St).rows.set (spot (⟨[(l, h)], x, y, z, u⟩ : St).rows.length s o a) r = [r] := by
  have : spot (⟨[(l, h)], x, y, z, u⟩ : St).rows.length s o a = 0 := spot_one s o a
  rw [this]; rfl
theorem in_one {l : List Pl} {h : Nat} {x y z u : Int} {s o a t : Int} {b : Bool} : In ⟨[(l, h)], x, y, z, u⟩ s o a t b ↔ RIn l s o a t b := by
  constructor
  · rintro ⟨r, h1, h2⟩
    rw [row_one] at h1; cases h1; exact h2
  · intro h2
    exact ⟨(l, h), row_one s o a, h2⟩
theorem putS_free {n i k hand : Nat} {S : St} {tag s o a : Int} {al : Bool} {l : List Pl} (hs : spot S.rows.length s o a = i) (hr : S.rows[i]? = some (l, hand)) (hf : find l s o a = none) (hk : l.findIdx? Pl.isNone = some k) :
    putS n S tag s o a al = { S with rows := S.rows.set i (l.set k ⟨true, s, o, a, tag, al, false⟩, hand), held := S.held + 1 } := by
  subst hs; unfold putS; rw [hr]; simp only [hf, hk]
theorem putS_full {n i hand : Nat} {S : St} {tag s o a : Int} {al : Bool} {l : List Pl} (hs : spot S.rows.length s o a = i) (hr : S.rows[i]? = some (l, hand)) (hf : find l s o a = none) (hk : l.findIdx? Pl.isNone = none) :
    putS n S tag s o a al = full n S tag s o a al i l hand := by
  subst hs; unfold putS; rw [hr]; simp only [hf, hk]
theorem getS_hits {i k hand : Nat} {S : St} {tag s o a : Int} {l : List Pl} {p : Pl} (hs : spot S.rows.length s o a = i) (hr : S.rows[i]? = some (l, hand)) (hf : find l s o a = some k) (hp : l[k]? = some p) (ht : p.tag = tag) :
    getS S tag s o a = ((p.allowed, true), { S with rows := S.rows.set i (l.set k { p with marked := true }, hand), hits := S.hits + 1 }) := by
  subst hs; unfold getS; rw [hr]; simp only [hf, hp, if_pos ht]
/-- the next triple is put -/
theorem put_fill {w j : Nat} {tag : Int} {μ : Nat → Bool} {l : List Pl} {x y z u : Int} (h : Filled w j tag μ l) (hj : j < w) (hm : μ j = false) (al : Bool) :
    ∃ l' u', putS w ⟨[(l, 0)], x, y, z, u⟩ tag j 0 0 al = ⟨[(l', 0)], x, y, z, u'⟩ ∧ Filled w (j + 1) tag μ l' := by
  have hf := find_out h (Nat.le_refl j)
  have hn : l.findIdx? Pl.isNone = some j := by
    rw [List.findIdx?_eq_some_iff_getElem]
    refine ⟨by rw [h.1]; exact hj, ?_, fun i hi => ?_⟩
    · obtain ⟨p, hp, _, h2⟩ := h.2 j hj
      rw [List.getElem?_eq_getElem (by rw [h.1]; exact hj)] at hp
      cases hp
      rw [h2 (Nat.lt_irrefl j)]; rfl
    · obtain ⟨p, hp, h1, _⟩ := h.2 i (by omega)
      rw [List.getElem?_eq_getElem (by rw [h.1]; omega)] at hp
      cases hp
      rw [key_notNone (h1 hi).1]; simp
  refine ⟨l.set j ⟨true, j, 0, 0, tag, al, false⟩, u + 1, ?_, ?_⟩
  · exact putS_free (S := ⟨[(l, 0)], x, y, z, u⟩) (i := 0) (spot_one _ _ _) rfl hf hn
  · refine ⟨by simp [h.1], fun i hi => ?_⟩
    by_cases hij : i = j
    · subst hij
      exact ⟨_, List.getElem?_set_self (by rw [h.1]; exact hj), fun _ => ⟨fresh_self .., rfl, hm.symm⟩, fun h => absurd (Nat.lt_succ_self i) h⟩
    · obtain ⟨p, hp, h1, h2⟩ := h.2 i hi
      exact ⟨p, by rw [List.getElem?_set_ne (fun e => hij e.symm)]; exact hp, fun h' => h1 (by omega), fun h' => h2 (by omega)⟩
theorem filled_uniq {w j : Nat} {tag : Int} {μ : Nat → Bool} {l : List Pl} (h : Filled w j tag μ l) : RUniq l := by
  intro s o a i k p q hp hq hpk hqk
  have hi : i < w := by rw [← h.1]; exact (List.getElem?_eq_some_iff.1 hp).1
  have hk : k < w := by rw [← h.1]; exact (List.getElem?_eq_some_iff.1 hq).1
  obtain ⟨p', hp', a1, a2⟩ := h.2 i hi
  obtain ⟨q', hq', b1, b2⟩ := h.2 k hk
  rw [hp] at hp'; cases hp'
  rw [hq] at hq'; cases hq'
  by_cases hij : i < j
  · by_cases hkj : k < j
    · have e1 := (key_same hpk (a1 hij).1).1
      have e2 := (key_same hqk (b1 hkj).1).1
      omega
    · rw [b2 hkj, none_key] at hqk; cases hqk
  · rw [a2 hij, none_key] at hpk; cases hpk
/-- one is hit -/
theorem get_fill {w : Nat} {tag : Int} {μ : Nat → Bool} {l : List Pl} {x y z u : Int} (h : Filled w w tag μ l) {i : Nat} (hi : i < w) :
    ∃ l' al, getS ⟨[(l, 0)], x, y, z, u⟩ tag i 0 0 = ((al, true), ⟨[(l', 0)], x + 1, y, z, u⟩) ∧ Filled w w tag (fun k => μ k || k == i) l' := by
  obtain ⟨p, hp, h1, _⟩ := h.2 i hi
  obtain ⟨k1, k2, k3⟩ := h1 hi
  have hf := find_at (filled_uniq h) hp k1
  refine ⟨l.set i { p with marked := true }, p.allowed, ?_, ?_⟩
  · exact getS_hits (S := ⟨[(l, 0)], x, y, z, u⟩) (i := 0) (spot_one _ _ _) rfl hf hp k2
  · refine ⟨by simp [h.1], fun k hk => ?_⟩
    by_cases hki : k = i
    · subst hki
      exact ⟨_, List.getElem?_set_self (by rw [h.1]; exact hk), fun _ => ⟨k1, k2, by simp⟩, fun h => absurd hk h⟩
    · obtain ⟨q, hq, h1, h2⟩ := h.2 k hk
      refine ⟨q, by rw [List.getElem?_set_ne (fun e => hki e.symm)]; exact hq, fun h' => ?_, h2⟩
      obtain ⟨a1, a2, a3⟩ := h1 h'
      exact ⟨a1, a2, by rw [a3]; simp [hki]⟩
/-- the hand, by the marks alone -/
def cl (n : Nat) : Nat → List Bool → Nat → Nat
  | 0, _, h => h
  | f + 1, m, h => match m[h]? with
    | some b => if b then cl n f (m.set h false) ((h + 1) % n) else h
    | none => h
theorem clock_cl (n : Nat) : ∀ (f : Nat) (l : List Pl) (h : Nat), (clock n f l h).2 = cl n f (l.map (·.marked)) h
  | 0, l, h => rfl
  | f + 1, l, h => by
    unfold clock cl
    rw [List.getElem?_map]
    cases hp : l[h]? with
    | none => rfl
    | some p =>
      simp only [Option.map_some]
      by_cases hm : p.marked = true
      · rw [if_pos hm, if_pos hm, clock_cl n f, List.map_set]
      · rw [if_neg hm, if_neg hm]
def allB : Nat → List (List Bool)
  | 0 => [[]]
  | n + 1 => (allB n).flatMap fun m => [false :: m, true :: m]
theorem mem_allB : ∀ (m : List Bool), m ∈ allB m.length
  | [] => List.mem_singleton.2 rfl
  | b :: m => by
    rw [List.length_cons, allB, List.mem_flatMap]
    refine ⟨m, mem_allB m, ?_⟩
    cases b <;> simp
theorem brute : ((List.range 8).all fun k => (allB (k + 1)).all fun m => !(m[cl (k + 1) (k + 1) m 0]?.getD false) || m.all id) = true := by decide +kernel
theorem victim {w : Nat} (h1 : 1 ≤ w) (h8 : w ≤ 8) (m : List Bool) (hm : m.length = w) (h : m[cl w w m 0]?.getD false = true) : m.all id = true := by
  have b := List.all_eq_true.1 brute (w - 1) (List.mem_range.2 (by omega))
  rw [show w - 1 + 1 = w from by omega] at b
  have c := List.all_eq_true.1 b m (by rw [← hm]; exact mem_allB m)
  rw [h] at c
  simpa using c
/-- one more is put: one is gone; it was hit only if all were -/
theorem put_over {w : Nat} {tag : Int} {μ : Nat → Bool} {l : List Pl} {x y z u : Int} (h1 : 1 ≤ w) (h8 : w ≤ 8) (h : Filled w w tag μ l) (al : Bool) :
    ∃ v, v < w ∧ (μ v = true → ∀ i, i < w → μ i = true) ∧ (∀ i : Nat, i < w → i ≠ v → ∃ b, In (putS w ⟨[(l, 0)], x, y, z, u⟩ tag w 0 0 al) i 0 0 tag b) ∧ (∀ t b, ¬ In (putS w ⟨[(l, 0)], x, y, z, u⟩ tag w 0 0 al) v 0 0 t b)
      ∧ (putS w ⟨[(l, 0)], x, y, z, u⟩ tag w 0 0 al).ev = z + 1 ∧ (putS w ⟨[(l, 0)], x, y, z, u⟩ tag w 0 0 al).rows.length = 1 := by
  have hf := find_out h (Nat.le_refl w)
  have hn : l.findIdx? Pl.isNone = none := by
    rw [List.findIdx?_eq_none_iff]
    intro p hp
    obtain ⟨i, hi⟩ := List.getElem?_of_mem hp
    have hiw : i < w := by rw [← h.1]; exact (List.getElem?_eq_some_iff.1 hi).1
    obtain ⟨q, hq, a1, _⟩ := h.2 i hiw
    rw [hi] at hq; cases hq
    exact key_notNone (a1 hiw).1
  have e : putS w ⟨[(l, 0)], x, y, z, u⟩ tag w 0 0 al = ⟨[((clock w w l 0).1.set (clock w w l 0).2 ⟨true, w, 0, 0, tag, al, false⟩, ((clock w w l 0).2 + 1) % w)], x, y, z + 1, u⟩ := by
    exact putS_full (S := ⟨[(l, 0)], x, y, z, u⟩) (i := 0) (spot_one _ _ _) rfl hf hn
  rw [e]
  have hv := clock_hand h1 w l 0 (by omega)
  have hvl : (clock w w l 0).2 < (clock w w l 0).1.length := by rw [clock_len, h.1]; exact hv
  refine ⟨(clock w w l 0).2, hv, fun hm i hi => ?_, fun i hi hne => ?_, fun t b hin => ?_, rfl, rfl⟩
  · have hmk : ∀ k, k < w → (l.map (·.marked))[k]? = some (μ k) := by
      intro k hk
      obtain ⟨p, hp, a1, _⟩ := h.2 k hk
      rw [List.getElem?_map, hp, Option.map_some, (a1 hk).2.2]
    have := victim h1 h8 (l.map (·.marked)) (by simp [h.1]) (by rw [← clock_cl, hmk _ hv]; exact hm)
    rw [List.all_eq_true] at this
    exact this _ (List.mem_of_getElem? (hmk i hi))
  · have hi2 : i < (clock w w l 0).1.length := by rw [clock_len, h.1]; exact hi
    obtain ⟨q, hq, hqm⟩ := clock_get w w l 0 i _ (List.getElem?_eq_getElem hi2)
    obtain ⟨p, hp, a1, _⟩ := h.2 i hi
    rw [hq] at hp; cases hp
    obtain ⟨k1, k2, _⟩ := a1 hi
    refine ⟨(clock w w l 0).1[i].allowed, in_one.2 ⟨i, (clock w w l 0).1[i], ?_, ?_, ?_, rfl⟩⟩
    · rw [List.getElem?_set_ne (fun e => hne e.symm)]; exact List.getElem?_eq_getElem hi2
    · rw [← key_marked hqm]; exact k1
    · rw [← hqm]; exact k2
  · obtain ⟨k, p, hp, hk, _⟩ := in_one.1 hin
    rcases set_get hp with ⟨rfl, rfl⟩ | ⟨hne, hp⟩
    · obtain ⟨e, _, _⟩ := fresh_key hk
      omega
    · obtain ⟨q, hq, hqm⟩ := clock_get w w l 0 k p hp
      have hkw : k < w := by rw [← h.1]; exact (List.getElem?_eq_some_iff.1 hq).1
      obtain ⟨p', hp', a1, _⟩ := h.2 k hkw
      rw [hq] at hp'; cases hp'
      rw [← key_marked hqm] at hk
      have := (key_same hk (a1 hkw).1).1
      omega
end Go.Proofs.Ythojgfnaanckeaa

/- The plain law of AvcRoom: what has room stays. -/
import Derived.Test.YthojgfnaanckeaaChanceN
namespace Go.Proofs.Ythojgfnaanckeaa
open Go.RowKit Go.Mm
/-- as many different ones as there are: all of them -/
theorem pigeon {α : Type} [DecidableEq α] : ∀ (l ks : List α), l.Nodup → (∀ x ∈ l, x ∈ ks) → ks.length ≤ l.length → ∀ x ∈ ks, x ∈ l
  | [], ks, _, _, hlen, x, hx => by
    have : ks = [] := List.eq_nil_of_length_eq_zero (by simpa using hlen)
    subst this; cases hx
  | y :: l, ks, hn, hs, hlen, x, hx => by
    by_cases hxy : x = y
    · subst hxy; exact List.mem_cons_self
    · refine List.mem_cons_of_mem _ ?_
      obtain ⟨h1, h2⟩ := List.nodup_cons.1 hn
      have hy := hs y List.mem_cons_self
      refine pigeon l (ks.erase y) h2 (fun z hz => ?_) ?_ x ?_
      · exact (List.mem_erase_of_ne (fun e : z = y => h1 (by rw [← e]; exact hz))).2 (hs z (List.mem_cons_of_mem _ hz))
      · rw [List.length_erase_of_mem hy]
        simp only [List.length_cons] at hlen
        omega
      · exact (List.mem_erase_of_ne hxy).2 hx
/-- every place is free or holds -/
def Clean (S : St) : Prop := ∀ (i : Nat) (r : List Pl × Nat), S.rows[i]? = some r → ∀ (k : Nat) (p : Pl), r.1[k]? = some p → p = Pl.none ∨ (p.held = true ∧ spot S.rows.length p.s p.o p.a = i)
def Pl.tri (p : Pl) : Int × Int × Int := (p.s, p.o, p.a)
theorem self_key {p : Pl} (h : p.held = true) : p.key p.s p.o p.a = true := by simp [Pl.key, h]
/-- a full row of a clean set holds every triple of a list that has all its triples and is no longer -/
theorem row_full {l : List Pl} {ks : List (Int × Int × Int)} (hu : RUniq l) (hc : ∀ (k : Nat) (p : Pl), l[k]? = some p → p.held = true) (hk : ∀ (k : Nat) (p : Pl), l[k]? = some p → p.tri ∈ ks) (hlen : ks.length ≤ l.length) (s o a : Int) (hx : (s, o, a) ∈ ks) : find l s o a ≠ none := by
  intro hf
  have hn : (l.map Pl.tri).Nodup := by
    rw [List.nodup_iff_pairwise_ne, List.pairwise_iff_getElem]
    intro i j hi hj hij e
    simp only [List.length_map] at hi hj
    simp only [List.getElem_map] at e
    have h1 := self_key (hc i _ (List.getElem?_eq_getElem hi))
    have h2 := self_key (hc j _ (List.getElem?_eq_getElem hj))
    simp only [Pl.tri, Prod.mk.injEq] at e
    rw [← e.1, ← e.2.1, ← e.2.2] at h2
    have := hu _ _ _ i j _ _ (List.getElem?_eq_getElem hi) (List.getElem?_eq_getElem hj) h1 h2
    omega
  have := pigeon (l.map Pl.tri) ks hn (fun x hx => by
    obtain ⟨p, hp, rfl⟩ := List.mem_map.1 hx
    obtain ⟨k, hk'⟩ := List.getElem?_of_mem hp
    exact hk k p hk') (by simpa using hlen) _ hx
  obtain ⟨p, hp, e⟩ := List.mem_map.1 this
  obtain ⟨k, hk'⟩ := List.getElem?_of_mem hp
  have h1 := self_key (hc k p hk')
  simp only [Pl.tri, Prod.mk.injEq] at e
  rw [e.1, e.2.1, e.2.2] at h1
  rw [find_no hf k p hk'] at h1
  cases h1
theorem new_clean (s n : Nat) : Clean (St.new s n) := by
  intro i r hr k p hp
  simp only [St.new, List.getElem?_replicate] at hr
  split at hr
  · cases hr
    simp only [List.getElem?_replicate] at hp
    split at hp
    · cases hp; exact .inl rfl
    · cases hp
  · cases hr
theorem Clean.set {S : St} (h : Clean S) {i : Nat} {l l' : List Pl} {hand hand' : Nat} {x y z u : Int} (_ : S.rows[i]? = some (l, hand)) (hl : ∀ (k : Nat) (p : Pl), l'[k]? = some p → p = Pl.none ∨ (p.held = true ∧ spot S.rows.length p.s p.o p.a = i)) : Clean ⟨S.rows.set i (l', hand'), x, y, z, u⟩ := by
  intro j r hj k p hp
  simp only [List.length_set, List.getElem?_set] at hj ⊢
  split at hj
  · rename_i e
    split at hj
    · cases hj; rw [← e]; exact hl k p hp
    · cases hj
  · exact h j r hj k p hp
theorem Clean.get {S : St} (h : Clean S) (tag s o a : Int) : Clean (getS S tag s o a).2 := by
  unfold getS
  split
  · exact h
  · rename_i l hand hr
    split
    · exact h
    · rename_i k hf
      split
      · exact h
      · rename_i p hp
        have hl := h _ _ hr
        split
        · refine h.set hr fun j q hq => ?_
          rcases set_get hq with ⟨rfl, rfl⟩ | ⟨_, hq⟩
          · rcases hl _ p hp with rfl | hh
            · obtain ⟨p', hp', hk⟩ := find_lt hf
              rw [hp] at hp'; cases hp'; rw [none_key] at hk; cases hk
            · exact .inr hh
          · exact hl j q hq
        · refine h.set hr fun j q hq => ?_
          rcases set_get hq with ⟨rfl, rfl⟩ | ⟨_, hq⟩
          · exact .inl rfl
          · exact hl j q hq
/-- a Put of a triple of a list no longer than the ways finds a place: nothing is evicted -/
theorem put_room {n : Nat} {S : St} {ks : List (Int × Int × Int)} {tag s o a : Int} {al : Bool} (ho : S.ok n) (hu : Uniq S) (hc : Clean S) (hlen : ks.length ≤ n) (hk : ∀ s o a t b, In S s o a t b → (s, o, a) ∈ ks) (hx : (s, o, a) ∈ ks) :
    (putS n S tag s o a al).ev = S.ev ∧ (putS n S tag s o a al).misses = S.misses ∧ Clean (putS n S tag s o a al) ∧ ∀ s' o' a' t b, In S s' o' a' t b → ¬ (s' = s ∧ o' = o ∧ a' = a) → In (putS n S tag s o a al) s' o' a' t b := by
  have hlt := spot_lt (n := S.rows.length) s o a ho.1
  obtain ⟨⟨l, hand⟩, hr⟩ : ∃ r, S.rows[spot S.rows.length s o a]? = some r := ⟨_, List.getElem?_eq_getElem hlt⟩
  obtain ⟨hl, _⟩ := ho.2.2.2.2 _ _ hr
  have hcl := hc _ _ hr
  have hur := hu _ _ hr
  have keep : ∀ (k : Nat) (q : Pl) (x y z u : Int), (∀ p, l[k]? = some p → ∀ s' o' a', p.key s' o' a' = true → s' = s ∧ o' = o ∧ a' = a) → ∀ s' o' a' t b, In S s' o' a' t b → ¬ (s' = s ∧ o' = o ∧ a' = a) → In ⟨S.rows.set (spot S.rows.length s o a) (l.set k q, hand), x, y, z, u⟩ s' o' a' t b := by
    intro k q x y z u hkk s' o' a' t b hin hne
    obtain ⟨r, h1, j, p, hj, hp, ht, ha⟩ := hin
    by_cases hs : spot S.rows.length s' o' a' = spot S.rows.length s o a
    · rw [hs, hr] at h1; cases h1
      refine In.mk' hr hs ⟨j, p, ?_, hp, ht, ha⟩
      by_cases hjk : j = k
      · subst hjk
        exact absurd (hkk p hj s' o' a' hp) hne
      · rw [List.getElem?_set_ne (fun e => hjk e.symm)]; exact hj
    · refine ⟨r, ?_, j, p, hj, hp, ht, ha⟩
      simp only [List.length_set]
      rw [List.getElem?_set_ne (fun e => hs e.symm)]; exact h1
  unfold putS
  simp only [hr]
  cases hf : find l s o a with
  | some k =>
    obtain ⟨p, hp, hpk⟩ := find_lt hf
    simp only [hp]
    refine ⟨trivial, trivial, hc.set hr fun j q hq => ?_, keep k _ _ _ _ _ fun p' hp' s' o' a' hk' => ?_⟩
    · rcases set_get hq with ⟨rfl, rfl⟩ | ⟨_, hq⟩
      · rcases hcl _ p hp with rfl | hh
        · rw [none_key] at hpk; cases hpk
        · exact .inr hh
      · exact hcl j q hq
    · rw [hp] at hp'; cases hp'
      exact key_same hk' hpk
  | none =>
    cases hfi : l.findIdx? Pl.isNone with
    | some k =>
      simp only []
      have hkn : ∀ p, l[k]? = some p → p = Pl.none := by
        intro p hp
        rw [List.findIdx?_eq_some_iff_getElem] at hfi
        obtain ⟨q1, q2, _⟩ := hfi
        rw [List.getElem?_eq_getElem q1] at hp; cases hp
        exact (Pl.isNone_iff _).1 q2
      refine ⟨trivial, trivial, hc.set hr fun j q hq => ?_, keep k _ _ _ _ _ fun p' hp' s' o' a' hk' => ?_⟩
      · rcases set_get hq with ⟨rfl, rfl⟩ | ⟨_, hq⟩
        · exact .inr ⟨rfl, rfl⟩
        · exact hcl j q hq
      · rw [hkn p' hp', none_key] at hk'; cases hk'
    | none =>
      refine absurd hf (row_full hur (fun k p hp => ?_) (fun k p hp => ?_) (by rw [hl]; exact hlen) s o a hx)
      · rcases hcl k p hp with rfl | hh
        · rw [List.findIdx?_eq_none_iff] at hfi
          have := hfi _ (List.mem_of_getElem? hp)
          rw [(Pl.isNone_iff _).2 rfl] at this; cases this
        · exact hh.1
      · rcases hcl k p hp with rfl | hh
        · rw [List.findIdx?_eq_none_iff] at hfi
          have := hfi _ (List.mem_of_getElem? hp)
          rw [(Pl.isNone_iff _).2 rfl] at this; cases this
        · exact hk p.s p.o p.a p.tag p.allowed ⟨(l, hand), by rw [hh.2]; exact hr, k, p, hp, self_key hh.1, rfl, rfl⟩
end Go.Proofs.Ythojgfnaanckeaa

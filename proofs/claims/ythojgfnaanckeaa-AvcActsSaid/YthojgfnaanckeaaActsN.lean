/- The document's cache, plain: a list of decisions that says what the rows say. -/
import Derived.Test.YthojgfnaanckeaaCountN
namespace Go.Proofs.Ythojgfnaanckeaa
open Go.RowKit Go.Mm
structure De where
  set : Nat
  place : Nat
  s : Int
  o : Int
  a : Int
  tag : Int
  al : Bool
  mkd : Bool
def De.pl (d : De) : Pl := ⟨true, d.s, d.o, d.a, d.tag, d.al, d.mkd⟩
structure Rel (rows : List (List Pl × Nat)) (ds : List De) : Prop where
  fwd : ∀ (j : Nat) (d : De), ds[j]? = some d → ∃ r, rows[d.set]? = some r ∧ r.1[d.place]? = some d.pl
  bwd : ∀ (i : Nat) (r : List Pl × Nat) (k : Nat) (p : Pl), rows[i]? = some r → r.1[k]? = some p → p.held = true → ∃ (j : Nat) (d : De), ds[j]? = some d ∧ d.set = i ∧ d.place = k
  inj : ∀ (j j' : Nat) (d d' : De), ds[j]? = some d → ds[j']? = some d' → d.set = d'.set → d.place = d'.place → j = j'
theorem set_get' {α : Type} {l : List α} {k j : Nat} {q p : α} (h : (l.set k q)[j]? = some p) : (j = k ∧ p = q) ∨ (j ≠ k ∧ l[j]? = some p) := by
  rw [List.getElem?_set] at h
  split at h
  · rename_i e
    split at h
    · cases h; exact .inl ⟨e.symm, rfl⟩
    · cases h
  · rename_i e; exact .inr ⟨fun h => e h.symm, h⟩
theorem lt_of_get {α : Type} {l : List α} {k : Nat} {x : α} (h : l[k]? = some x) : k < l.length := (List.getElem?_eq_some_iff.1 h).1
/-- the place (i, k) turned to q: what stands where -/
theorem row_set {rows : List (List Pl × Nat)} {i : Nat} {l : List Pl} {h h' : Nat} {k : Nat} {q : Pl} (hr : rows[i]? = some (l, h)) (hk : k < l.length) :
    (∃ r, (rows.set i (l.set k q, h'))[i]? = some r ∧ r.1[k]? = some q) ∧
    (∀ (i' k' : Nat) (r : List Pl × Nat) (p : Pl), ¬ (i' = i ∧ k' = k) → rows[i']? = some r → r.1[k']? = some p → ∃ r', (rows.set i (l.set k q, h'))[i']? = some r' ∧ r'.1[k']? = some p) ∧
    (∀ (i' k' : Nat) (r : List Pl × Nat) (p : Pl), (rows.set i (l.set k q, h'))[i']? = some r → r.1[k']? = some p → (i' = i ∧ k' = k ∧ p = q) ∨ (¬ (i' = i ∧ k' = k) ∧ ∃ r', rows[i']? = some r' ∧ r'.1[k']? = some p)) := by
  refine ⟨⟨_, List.getElem?_set_self (lt_of_get hr), List.getElem?_set_self hk⟩, ?_, ?_⟩
  · intro i' k' r p hne h1 h2
    by_cases hi : i' = i
    · subst hi
      rw [hr] at h1; cases h1
      exact ⟨_, List.getElem?_set_self (lt_of_get hr), by rw [List.getElem?_set_ne (fun e => hne ⟨rfl, e.symm⟩)]; exact h2⟩
    · exact ⟨r, by rw [List.getElem?_set_ne (fun e => hi e.symm)]; exact h1, h2⟩
  · intro i' k' r p h1 h2
    rcases set_get' h1 with ⟨rfl, rfl⟩ | ⟨hi, h1⟩
    · rcases set_get' h2 with ⟨rfl, rfl⟩ | ⟨hk', h2⟩
      · exact .inl ⟨rfl, rfl, rfl⟩
      · exact .inr ⟨fun e => hk' e.2, _, hr, h2⟩
    · exact .inr ⟨fun e => hi e.1, r, h1, h2⟩
theorem Rel.hand {rows : List (List Pl × Nat)} {ds : List De} (h : Rel rows ds) {i : Nat} {l : List Pl} {x : Nat} (y : Nat) (hr : rows[i]? = some (l, x)) : Rel (rows.set i (l, y)) ds := by
  refine ⟨fun j d hd => ?_, fun i' r k p h1 h2 h3 => ?_, h.inj⟩
  · obtain ⟨r, h1, h2⟩ := h.fwd j d hd
    by_cases e : i = d.set
    · subst e
      rw [hr] at h1; cases h1
      exact ⟨_, List.getElem?_set_self (lt_of_get hr), h2⟩
    · exact ⟨r, by rw [List.getElem?_set_ne e]; exact h1, h2⟩
  · rcases set_get' h1 with ⟨rfl, rfl⟩ | ⟨_, h1⟩
    · exact h.bwd _ _ k p hr h2 h3
    · exact h.bwd _ _ k p h1 h2 h3
theorem Rel.set {rows : List (List Pl × Nat)} {ds : List De} (h : Rel rows ds) {j : Nat} {d d' : De} (hd : ds[j]? = some d) (e1 : d'.set = d.set) (e2 : d'.place = d.place) {l : List Pl} {x y : Nat} (hr : rows[d.set]? = some (l, x)) :
    Rel (rows.set d.set (l.set d.place d'.pl, y)) (ds.set j d') := by
  obtain ⟨r, q1, q2⟩ := h.fwd j d hd
  rw [hr] at q1; cases q1
  obtain ⟨a1, a2, a3⟩ := row_set (q := d'.pl) (h' := y) hr (lt_of_get q2)
  refine ⟨fun q e he => ?_, fun i r k p h1 h2 h3 => ?_, fun q q' e e' he he' s1 s2 => ?_⟩
  · rcases set_get' he with ⟨rfl, rfl⟩ | ⟨hq, he⟩
    · rw [e1, e2]; exact a1
    · obtain ⟨r, b1, b2⟩ := h.fwd q e he
      exact a2 _ _ r _ (fun hh => hq (h.inj q j e d he hd hh.1 hh.2)) b1 b2
  · rcases a3 i k r p h1 h2 with ⟨rfl, rfl, rfl⟩ | ⟨hne, r', b1, b2⟩
    · exact ⟨j, d', List.getElem?_set_self (lt_of_get hd), e1, e2⟩
    · obtain ⟨q, e, c1, c2, c3⟩ := h.bwd i r' k p b1 b2 h3
      refine ⟨q, e, ?_, c2, c3⟩
      rw [List.getElem?_set_ne]
      · exact c1
      · rintro rfl
        rw [hd] at c1; cases c1
        exact hne ⟨c2.symm, c3.symm⟩
  · rcases set_get' he with ⟨hq, hd1⟩ | ⟨hq, hk⟩ <;> rcases set_get' he' with ⟨hq', hd2⟩ | ⟨hq', hk'⟩
    · rw [hq, hq']
    · rw [hd1] at s1 s2; rw [hq]; exact h.inj _ _ d e' hd hk' (e1.symm.trans s1) (e2.symm.trans s2)
    · rw [hd2] at s1 s2; rw [hq']; exact h.inj _ _ e d hk hd (s1.trans e1) (s2.trans e2)
    · exact h.inj _ _ e e' hk hk' s1 s2
theorem get_erase {α : Type} {l : List α} {j q : Nat} {x : α} (h : (l.eraseIdx j)[q]? = some x) : ∃ q', l[q']? = some x ∧ q' ≠ j ∧ q' = if q < j then q else q + 1 := by
  rw [List.getElem?_eraseIdx] at h
  split at h
  · rename_i hq; exact ⟨q, h, by omega, by rw [if_pos hq]⟩
  · rename_i hq; exact ⟨q + 1, h, by omega, by rw [if_neg hq]⟩
theorem Rel.erase {rows : List (List Pl × Nat)} {ds : List De} (h : Rel rows ds) {j : Nat} {d : De} (hd : ds[j]? = some d) {l : List Pl} {x y : Nat} (hr : rows[d.set]? = some (l, x)) :
    Rel (rows.set d.set (l.set d.place Pl.none, y)) (ds.eraseIdx j) := by
  obtain ⟨r, q1, q2⟩ := h.fwd j d hd
  rw [hr] at q1; cases q1
  obtain ⟨a1, a2, a3⟩ := row_set (q := Pl.none) (h' := y) hr (lt_of_get q2)
  refine ⟨fun q e he => ?_, fun i r k p h1 h2 h3 => ?_, fun q q' e e' he he' s1 s2 => ?_⟩
  · obtain ⟨q', he, hq, _⟩ := get_erase he
    obtain ⟨r, b1, b2⟩ := h.fwd q' e he
    exact a2 _ _ r _ (fun hh => hq (h.inj q' j e d he hd hh.1 hh.2)) b1 b2
  · rcases a3 i k r p h1 h2 with ⟨rfl, rfl, rfl⟩ | ⟨hne, r', b1, b2⟩
    · cases h3
    · obtain ⟨q, e, c1, c2, c3⟩ := h.bwd i r' k p b1 b2 h3
      have hqj : q ≠ j := by
        rintro rfl
        rw [hd] at c1; cases c1
        exact hne ⟨c2.symm, c3.symm⟩
      refine ⟨if q < j then q else q - 1, e, ?_, c2, c3⟩
      rw [List.getElem?_eraseIdx]
      by_cases hl : q < j
      · rw [if_pos hl, if_pos hl]; exact c1
      · rw [if_neg hl, if_neg (by omega), show q - 1 + 1 = q from by omega]; exact c1
  · obtain ⟨p, he, _, e1⟩ := get_erase he
    obtain ⟨p', he', _, e2⟩ := get_erase he'
    have := h.inj _ _ e e' he he' s1 s2
    subst this
    rw [e1] at e2
    split at e2 <;> split at e2 <;> omega
theorem Rel.push {rows : List (List Pl × Nat)} {ds : List De} (h : Rel rows ds) {d : De} {l : List Pl} {x y : Nat} (hr : rows[d.set]? = some (l, x)) {p : Pl} (hp : l[d.place]? = some p) (hn : p.held = false) :
    Rel (rows.set d.set (l.set d.place d.pl, y)) (ds ++ [d]) := by
  obtain ⟨a1, a2, a3⟩ := row_set (q := d.pl) (h' := y) hr (lt_of_get hp)
  have hno : ∀ (q : Nat) (e : De), ds[q]? = some e → ¬ (e.set = d.set ∧ e.place = d.place) := by
    rintro q e he ⟨s1, s2⟩
    obtain ⟨r, b1, b2⟩ := h.fwd q e he
    rw [s1, hr] at b1; cases b1
    rw [s2, hp] at b2; cases b2
    cases hn
  have hget : ∀ (q : Nat) (e : De), (ds ++ [d])[q]? = some e → (ds[q]? = some e) ∨ (q = ds.length ∧ e = d) := by
    intro q e he
    rw [List.getElem?_append] at he
    split at he
    · exact .inl he
    · rw [List.getElem?_singleton] at he
      split at he
      · cases he; exact .inr ⟨by omega, rfl⟩
      · cases he
  refine ⟨fun q e he => ?_, fun i r k p h1 h2 h3 => ?_, fun q q' e e' he he' s1 s2 => ?_⟩
  · rcases hget q e he with he | ⟨_, rfl⟩
    · obtain ⟨r, b1, b2⟩ := h.fwd q e he
      exact a2 _ _ r _ (hno q e he) b1 b2
    · exact a1
  · rcases a3 i k r p h1 h2 with ⟨rfl, rfl, rfl⟩ | ⟨hne, r', b1, b2⟩
    · exact ⟨ds.length, d, by rw [List.getElem?_append_right (Nat.le_refl _), Nat.sub_self]; rfl, rfl, rfl⟩
    · obtain ⟨q, e, c1, c2, c3⟩ := h.bwd i r' k p b1 b2 h3
      exact ⟨q, e, by rw [List.getElem?_append_left (lt_of_get c1)]; exact c1, c2, c3⟩
  · rcases hget q e he with hk | ⟨hq, hd1⟩ <;> rcases hget q' e' he' with hk' | ⟨hq', hd2⟩
    · exact h.inj _ _ e e' hk hk' s1 s2
    · rw [hd2] at s1 s2; exact absurd ⟨s1, s2⟩ (hno q e hk)
    · rw [hd1] at s1 s2; exact absurd ⟨s1.symm, s2.symm⟩ (hno q' e' hk')
    · rw [hq, hq']
/-! ### where a decision stands -/
def De.key (d : De) (s o a : Int) : Bool := d.s == s && (d.o == o && d.a == a)
def ofR (ds : List De) (s o a : Int) : Option Nat := ds.findIdx? (De.key · s o a)
def inR (ds : List De) (i k : Nat) : Option Nat := ds.findIdx? fun d => d.set == i && d.place == k
theorem ofR_some {S : St} {ds : List De} (h : Rel S.rows ds) (hu : Uniq S) (hc : Clean S) {s o a : Int} {j : Nat} (hj : ofR ds s o a = some j) :
    ∃ d l x, ds[j]? = some d ∧ d.s = s ∧ d.o = o ∧ d.a = a ∧ d.set = spot S.rows.length s o a ∧ S.rows[spot S.rows.length s o a]? = some (l, x) ∧ find l s o a = some d.place ∧ l[d.place]? = some d.pl := by
  obtain ⟨q1, q2, _⟩ := List.findIdx?_eq_some_iff_getElem.1 hj
  have hd := List.getElem?_eq_getElem q1
  generalize ds[j] = d at q2 hd
  unfold De.key at q2
  simp only [Bool.and_eq_true, beq_iff_eq] at q2
  obtain ⟨e1, e2, e3⟩ := q2
  obtain ⟨⟨l, x⟩, b1, b2⟩ := h.fwd j d hd
  have hset : d.set = spot S.rows.length s o a := by
    rcases hc _ _ b1 _ _ b2 with hn | ⟨_, hs⟩
    · cases hn
    · have hs : spot S.rows.length d.s d.o d.a = d.set := hs
      rw [← hs, e1, e2, e3]
  refine ⟨d, l, x, hd, e1, e2, e3, hset, by rw [← hset]; exact b1, ?_, b2⟩
  exact find_at (hu _ _ b1) b2 (by simp [Pl.key, De.pl, e1, e2, e3])
theorem ofR_none {S : St} {ds : List De} (h : Rel S.rows ds) {s o a : Int} (hj : ofR ds s o a = none) {l : List Pl} {x : Nat} (hr : S.rows[spot S.rows.length s o a]? = some (l, x)) : find l s o a = none := by
  cases hf : find l s o a with
  | none => rfl
  | some k =>
    exfalso
    obtain ⟨p, hp, hk⟩ := find_lt hf
    obtain ⟨e0, e1, e2, e3⟩ := key_of hk
    obtain ⟨j, d, hd, s1, s2⟩ := h.bwd _ _ k p hr hp e0
    obtain ⟨r, b1, b2⟩ := h.fwd j d hd
    rw [s1, hr] at b1; cases b1
    rw [s2, hp] at b2; cases b2
    unfold ofR at hj
    rw [List.findIdx?_eq_none_iff] at hj
    have := hj d (List.mem_of_getElem? hd)
    simp only [De.pl] at e1 e2 e3
    simp [De.key, e1, e2, e3] at this
theorem inR_some {ds : List De} {i k j : Nat} (hj : inR ds i k = some j) : ∃ d, ds[j]? = some d ∧ d.set = i ∧ d.place = k := by
  obtain ⟨q1, q2, _⟩ := List.findIdx?_eq_some_iff_getElem.1 hj
  simp only [Bool.and_eq_true, beq_iff_eq] at q2
  exact ⟨_, List.getElem?_eq_getElem q1, q2.1, q2.2⟩
theorem inR_none {rows : List (List Pl × Nat)} {ds : List De} (h : Rel rows ds) {i k : Nat} (hj : inR ds i k = none) {r : List Pl × Nat} (hr : rows[i]? = some r) {p : Pl} (hp : r.1[k]? = some p) : p.held = false := by
  cases hh : p.held with
  | false => rfl
  | true =>
    exfalso
    obtain ⟨j, d, hd, s1, s2⟩ := h.bwd i r k p hr hp hh
    unfold inR at hj
    rw [List.findIdx?_eq_none_iff] at hj
    have := hj d (List.mem_of_getElem? hd)
    simp [s1, s2] at this
theorem inR_held {rows : List (List Pl × Nat)} {ds : List De} (h : Rel rows ds) {i k : Nat} {r : List Pl × Nat} (hr : rows[i]? = some r) {p : Pl} (hp : r.1[k]? = some p) (hh : p.held = true) : ∃ j d, inR ds i k = some j ∧ ds[j]? = some d ∧ d.set = i ∧ d.place = k ∧ d.pl = p := by
  cases hj : inR ds i k with
  | none => rw [inR_none h hj hr hp] at hh; cases hh
  | some j =>
    obtain ⟨d, hd, s1, s2⟩ := inR_some hj
    obtain ⟨r', b1, b2⟩ := h.fwd j d hd
    rw [s1, hr] at b1; cases b1
    rw [s2, hp] at b2; cases b2
    exact ⟨j, d, rfl, hd, s1, s2, rfl⟩
structure RS where
  hands : List Nat
  ds : List De
  hits : Int
  misses : Int
  ev : Int
structure Sim (S : St) (R : RS) : Prop where
  hands : R.hands = S.rows.map (·.2)
  rel : Rel S.rows R.ds
  hits : R.hits = S.hits
  misses : R.misses = S.misses
  ev : R.ev = S.ev
  held : S.held = ((R.ds.length : Nat) : Int)
def RS.new (s : Nat) : RS := ⟨List.replicate s 0, [], 0, 0, 0⟩
theorem Sim.new (s n : Nat) : Sim (St.new s n) (RS.new s) := by
  refine ⟨by simp [RS.new, St.new], ⟨fun j d h => by simp [RS.new] at h, fun i r k p h1 h2 h3 => ?_, fun j j' d d' h => by simp [RS.new] at h⟩, rfl, rfl, rfl, rfl⟩
  rcases new_clean s n i r h1 k p h2 with rfl | ⟨_, _⟩
  · cases h3
  · simp only [St.new, List.getElem?_replicate] at h1
    split at h1
    · cases h1
      simp only [List.getElem?_replicate] at h2
      split at h2
      · cases h2; cases h3
      · cases h2
    · cases h1
theorem map_snd_set {rows : List (List Pl × Nat)} {i : Nat} {l l' : List Pl} {x : Nat} (hr : rows[i]? = some (l, x)) : (rows.set i (l', x)).map (·.2) = rows.map (·.2) := by
  rw [List.map_set]
  exact set_same (by rw [List.getElem?_map, hr]; rfl)
/-- Get, hit -/
theorem sim_hit {S : St} {R : RS} {tag s o a : Int} (h : Sim S R) (hu : Uniq S) (hc : Clean S) {j : Nat} {d : De} (hj : ofR R.ds s o a = some j) (hd : R.ds[j]? = some d) (ht : d.tag = tag) :
    (getS S tag s o a).1 = (d.al, true) ∧ Sim (getS S tag s o a).2 ⟨R.hands, R.ds.set j { d with mkd := true }, R.hits + 1, R.misses, R.ev⟩ := by
  obtain ⟨d', l, x, hd', e1, e2, e3, e4, hr, hf, hl⟩ := ofR_some h.rel hu hc hj
  rw [hd] at hd'; cases hd'
  have hp : l[d.place]? = some d.pl := hl
  have e : getS S tag s o a = ((d.al, true), { S with rows := S.rows.set (spot S.rows.length s o a) (l.set d.place { d with mkd := true : De }.pl, x), hits := S.hits + 1 }) := by
    unfold getS; rw [hr]; simp only [hf, hp]
    rw [if_pos (show d.pl.tag = tag from ht)]; rfl
  rw [e]
  have hrel0 := h.rel.set (d' := { d with mkd := true }) (y := x) hd rfl rfl (by rw [e4]; exact hr)
  have hrel : Rel (S.rows.set (spot S.rows.length s o a) (l.set d.place { d with mkd := true : De }.pl, x)) (R.ds.set j { d with mkd := true }) := by rw [← e4]; exact hrel0
  exact ⟨rfl, ⟨by rw [map_snd_set hr]; exact h.hands, hrel, by simp only; rw [h.hits], h.misses, h.ev, by rw [List.length_set]; exact h.held⟩⟩
/-- Get, another tag -/
theorem sim_other {S : St} {R : RS} {tag s o a : Int} (h : Sim S R) (hu : Uniq S) (hc : Clean S) {j : Nat} {d : De} (hj : ofR R.ds s o a = some j) (hd : R.ds[j]? = some d) (ht : d.tag ≠ tag) :
    (getS S tag s o a).1 = (false, false) ∧ Sim (getS S tag s o a).2 ⟨R.hands, R.ds.eraseIdx j, R.hits, R.misses + 1, R.ev⟩ := by
  obtain ⟨d', l, x, hd', e1, e2, e3, e4, hr, hf, hl⟩ := ofR_some h.rel hu hc hj
  rw [hd] at hd'; cases hd'
  have hp : l[d.place]? = some d.pl := hl
  have e : getS S tag s o a = ((false, false), { S with rows := S.rows.set (spot S.rows.length s o a) (l.set d.place Pl.none, x), misses := S.misses + 1, held := S.held - 1 }) := by
    unfold getS; rw [hr]; simp only [hf, hp]
    rw [if_neg (show ¬ d.pl.tag = tag from ht)]
  rw [e]
  have hrel := h.rel.erase (y := x) hd (by rw [e4]; exact hr)
  rw [e4] at hrel
  have hlt := lt_of_get hd
  exact ⟨rfl, ⟨by rw [map_snd_set hr]; exact h.hands, hrel, h.hits, by simp only; rw [h.misses], h.ev, by rw [List.length_eraseIdx_of_lt hlt]; have := h.held; simp only; omega⟩⟩
/-- Get, nothing there -/
theorem sim_none {S : St} {R : RS} {n : Nat} {tag s o a : Int} (h : Sim S R) (ho : S.ok n) (hj : ofR R.ds s o a = none) :
    (getS S tag s o a).1 = (false, false) ∧ Sim (getS S tag s o a).2 ⟨R.hands, R.ds, R.hits, R.misses + 1, R.ev⟩ := by
  have hlt := spot_lt (n := S.rows.length) s o a ho.1
  obtain ⟨⟨l, x⟩, hr⟩ : ∃ r, S.rows[spot S.rows.length s o a]? = some r := ⟨_, List.getElem?_eq_getElem hlt⟩
  have hf := ofR_none h.rel hj hr
  have e : getS S tag s o a = ((false, false), { S with misses := S.misses + 1 }) := by unfold getS; rw [hr]; simp only [hf]
  rw [e]
  exact ⟨rfl, ⟨h.hands, h.rel, h.hits, by simp only; rw [h.misses], h.ev, h.held⟩⟩
/-- Put, there already -/
theorem sim_again {S : St} {R : RS} {n : Nat} {tag s o a : Int} {al : Bool} (h : Sim S R) (hu : Uniq S) (hc : Clean S) {j : Nat} {d : De} (hj : ofR R.ds s o a = some j) (hd : R.ds[j]? = some d) :
    Sim (putS n S tag s o a al) ⟨R.hands, R.ds.set j { d with tag := tag, al := al }, R.hits, R.misses, R.ev⟩ := by
  obtain ⟨d', l, x, hd', e1, e2, e3, e4, hr, hf, hl⟩ := ofR_some h.rel hu hc hj
  rw [hd] at hd'; cases hd'
  have hp : l[d.place]? = some d.pl := hl
  have e : putS n S tag s o a al = { S with rows := S.rows.set (spot S.rows.length s o a) (l.set d.place { d with tag := tag, al := al : De }.pl, x) } := by
    unfold putS; rw [hr]; simp only [hf, hp]; rfl
  rw [e]
  have hrel0 := h.rel.set (d' := { d with tag := tag, al := al }) (y := x) hd rfl rfl (by rw [e4]; exact hr)
  have hrel : Rel (S.rows.set (spot S.rows.length s o a) (l.set d.place { d with tag := tag, al := al : De }.pl, x)) (R.ds.set j { d with tag := tag, al := al }) := by rw [← e4]; exact hrel0
  exact ⟨by rw [map_snd_set hr]; exact h.hands, hrel, h.hits, h.misses, h.ev, by rw [List.length_set]; exact h.held⟩
/-- Put, at the first free place -/
theorem sim_free {S : St} {R : RS} {n : Nat} {tag s o a : Int} {al : Bool} {k : Nat} (h : Sim S R) (ho : S.ok n) (hc : Clean S) (hj : ofR R.ds s o a = none) (hk : k < n) (hfree : inR R.ds (spot S.rows.length s o a) k = none) (hall : ∀ k', k' < k → inR R.ds (spot S.rows.length s o a) k' ≠ none) :
    Sim (putS n S tag s o a al) ⟨R.hands, R.ds ++ [⟨spot S.rows.length s o a, k, s, o, a, tag, al, false⟩], R.hits, R.misses, R.ev⟩ := by
  have hlt := spot_lt (n := S.rows.length) s o a ho.1
  obtain ⟨⟨l, x⟩, hr⟩ : ∃ r, S.rows[spot S.rows.length s o a]? = some r := ⟨_, List.getElem?_eq_getElem hlt⟩
  have hf := ofR_none h.rel hj hr
  have hl : l.length = n := (ho.2.2.2.2 _ _ hr).1
  obtain ⟨p, hp⟩ : ∃ p, l[k]? = some p := ⟨_, List.getElem?_eq_getElem (by omega)⟩
  have hn : p.held = false := inR_none h.rel hfree hr hp
  have hfi : l.findIdx? Pl.isNone = some k := by
    rw [List.findIdx?_eq_some_iff_getElem]
    refine ⟨by omega, ?_, fun k' hk' => ?_⟩
    · rcases hc _ _ hr k p hp with rfl | ⟨hh, _⟩
      · have e : l[k]'(by omega) = Pl.none := by
          have h := hp
          rw [List.getElem?_eq_getElem (by omega)] at h
          exact Option.some.inj h
        exact (Pl.isNone_iff _).2 e
      · rw [hn] at hh; cases hh
    · have hlt' : k' < l.length := by omega
      have hp' := List.getElem?_eq_getElem hlt'
      intro hnone
      have hpe := (Pl.isNone_iff _).1 hnone
      obtain ⟨j, hjj⟩ := Option.ne_none_iff_exists'.1 (hall k' hk')
      obtain ⟨d, hd, s1, s2⟩ := inR_some hjj
      obtain ⟨r, b1, b2⟩ := h.rel.fwd j d hd
      rw [s1, hr] at b1; cases b1
      rw [s2, hp', hpe] at b2
      cases b2
  have e : putS n S tag s o a al = { S with rows := S.rows.set (spot S.rows.length s o a) (l.set k ⟨true, s, o, a, tag, al, false⟩, x), held := S.held + 1 } := by
    unfold putS; rw [hr]; simp only [hf, hfi]
  rw [e]
  have hrel := h.rel.push (d := ⟨spot S.rows.length s o a, k, s, o, a, tag, al, false⟩) (y := x) hr hp hn
  exact ⟨by rw [map_snd_set hr]; exact h.hands, hrel, h.hits, h.misses, h.ev, by simp only [List.length_append, List.length_singleton]; have := h.held; omega⟩
/-- Put, no place free: what the second loop begins with -/
theorem sim_full {S : St} {R : RS} {n : Nat} {tag s o a : Int} {al : Bool} {l : List Pl} {x : Nat} (h : Sim S R) (ho : S.ok n) (hj : ofR R.ds s o a = none) (hr : S.rows[spot S.rows.length s o a]? = some (l, x)) (hall : ∀ k', k' < n → inR R.ds (spot S.rows.length s o a) k' ≠ none) :
    putS n S tag s o a al = full n S tag s o a al (spot S.rows.length s o a) l x ∧ ∀ (k : Nat) (p : Pl), l[k]? = some p → p.held = true := by
  have hf := ofR_none h.rel hj hr
  have hl : l.length = n := (ho.2.2.2.2 _ _ hr).1
  have hheld : ∀ (k : Nat) (p : Pl), l[k]? = some p → p.held = true := by
    intro k p hp
    obtain ⟨j, hjj⟩ := Option.ne_none_iff_exists'.1 (hall k (by have := lt_of_get hp; omega))
    obtain ⟨d, hd, s1, s2⟩ := inR_some hjj
    obtain ⟨r, b1, b2⟩ := h.rel.fwd j d hd
    rw [s1, hr] at b1; cases b1
    rw [s2, hp] at b2
    cases b2; rfl
  have hfi : l.findIdx? Pl.isNone = none := by
    rw [List.findIdx?_eq_none_iff]
    intro p hp
    obtain ⟨k, hk⟩ := List.getElem?_of_mem hp
    cases hh : p.isNone with
    | false => rfl
    | true =>
      have := hheld k p hk
      rw [(Pl.isNone_iff _).1 hh] at this
      cases this
  refine ⟨?_, hheld⟩
  unfold putS; rw [hr]; simp only [hf, hfi]
theorem ds_le {S : St} {R : RS} {n asked hits : Nat} (h : Sim S R) (ho : S.ok n) (hc : CI asked hits S) : R.ds.length ≤ 2048 := by
  have h1 := h.held
  have h2 := hc.held
  have h3 := cntS_le n S.rows fun r hr => by
    obtain ⟨i, hi⟩ := List.getElem?_of_mem hr
    exact (ho.2.2.2.2 i r hi).1
  have h4 := Nat.mul_le_mul ho.2.1 ho.2.2.2.1
  omega
end Go.Proofs.Ythojgfnaanckeaa

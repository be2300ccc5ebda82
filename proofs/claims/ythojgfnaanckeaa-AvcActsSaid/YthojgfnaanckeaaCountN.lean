/- The plain law of AvcCounts: the counts are what was told; what is held is what would be told. -/
import Derived.Test.YthojgfnaanckeaaRoomP
import Derived.Test.YthojgfnaanckeaaFrac
namespace Go.Proofs.Ythojgfnaanckeaa
open Go.RowKit Go.Mm
def cntR (l : List Pl) : Nat := l.countP (·.held)
def cntS (R : List (List Pl × Nat)) : Nat := (R.map fun r => cntR r.1).sum
theorem cntR_set {l : List Pl} {k : Nat} {p : Pl} (q : Pl) (h : l[k]? = some p) : cntR (l.set k q) + p.held.toNat = cntR l + q.held.toNat := by
  induction l generalizing k with
  | nil => simp at h
  | cons x l ih =>
    cases k with
    | zero =>
      simp only [List.getElem?_cons_zero, Option.some.injEq] at h
      subst h
      simp only [List.set_cons_zero, cntR, List.countP_cons]
      cases x.held <;> cases q.held <;> simp
    | succ k =>
      simp only [List.getElem?_cons_succ] at h
      have := ih h
      simp only [List.set_cons_succ, cntR, List.countP_cons] at *
      omega
theorem cntS_set {R : List (List Pl × Nat)} {i : Nat} {r : List Pl × Nat} (r' : List Pl × Nat) (h : R[i]? = some r) : cntS (R.set i r') + cntR r.1 = cntS R + cntR r'.1 := by
  induction R generalizing i with
  | nil => simp at h
  | cons x R ih =>
    cases i with
    | zero =>
      simp only [List.getElem?_cons_zero, Option.some.injEq] at h
      subst h
      simp only [List.set_cons_zero, cntS, List.map_cons, List.sum_cons]
      omega
    | succ i =>
      simp only [List.getElem?_cons_succ] at h
      have := ih h
      simp only [List.set_cons_succ, cntS, List.map_cons, List.sum_cons] at *
      omega
theorem cntR_clock (n : Nat) : ∀ (f : Nat) (l : List Pl) (h : Nat), cntR (clock n f l h).1 = cntR l
  | 0, l, h => rfl
  | f + 1, l, h => by
    unfold clock
    split
    · rename_i p hp
      split
      · rw [cntR_clock n f]
        have := cntR_set { p with marked := false } hp
        simpa using this
      · rfl
    · rfl
theorem cntR_le (l : List Pl) : cntR l ≤ l.length := List.countP_le_length
theorem cntS_le (n : Nat) : ∀ (R : List (List Pl × Nat)), (∀ r ∈ R, r.1.length = n) → cntS R ≤ R.length * n
  | [], _ => by simp [cntS]
  | x :: R, h => by
    have h1 := cntS_le n R fun r hr => h r (List.mem_cons_of_mem _ hr)
    have h2 := cntR_le x.1
    rw [h x List.mem_cons_self] at h2
    simp only [cntS, List.map_cons, List.sum_cons, List.length_cons] at *
    rw [Nat.add_mul, Nat.one_mul]
    omega
structure CI (asked hits : Nat) (S : St) : Prop where
  clean : Clean S
  held : S.held = ((cntS S.rows : Nat) : Int)
  hits : S.hits = ((hits : Nat) : Int)
  asked : S.hits + S.misses = ((asked : Nat) : Int)
  misses : 0 ≤ S.misses
  ev : 0 ≤ S.ev
theorem CI.new (s n : Nat) : CI 0 0 (St.new s n) := by
  refine ⟨new_clean s n, ?_, rfl, rfl, Int.le_refl _, Int.le_refl _⟩
  have h1 : cntR (List.replicate n Pl.none) = 0 := by
    unfold cntR
    rw [List.countP_eq_zero]
    intro p hp
    rw [(List.mem_replicate.1 hp).2]; simp [Pl.none]
  have h2 : ∀ s, cntS (List.replicate s (List.replicate n Pl.none, 0)) = 0 := by
    intro s
    induction s with
    | zero => rfl
    | succ s ih =>
      rw [List.replicate_succ]
      simp only [cntS, List.map_cons, List.sum_cons] at *
      rw [h1, ih]
  show (0 : Int) = ((cntS (St.new s n).rows : Nat) : Int)
  unfold St.new
  rw [h2]; rfl
theorem CI.get {asked hits n : Nat} {S : St} (h : CI asked hits S) (ho : S.ok n) (tag s o a : Int) : CI (asked + 1) (hits + (getS S tag s o a).1.2.toNat) (getS S tag s o a).2 := by
  refine ⟨h.clean.get tag s o a, ?_, ?_, ?_, ?_, ?_⟩
  all_goals
    have hlt := spot_lt (n := S.rows.length) s o a ho.1
    obtain ⟨⟨l, hand⟩, hr⟩ : ∃ r, S.rows[spot S.rows.length s o a]? = some r := ⟨_, List.getElem?_eq_getElem hlt⟩
    have e1 := h.held
    have e2 := h.hits
    have e3 := h.asked
    have e4 := h.misses
    have e5 := h.ev
    unfold getS
    simp only [hr]
    cases hf : find l s o a with
    | none => first | exact e1 | exact e2 | exact e5 | (simp only [] ; omega)
    | some k =>
      obtain ⟨p, hp, hk⟩ := find_lt hf
      simp only [hp]
      by_cases ht : p.tag = tag
      · simp only [if_pos ht]
        have c1 := cntS_set (l.set k { p with marked := true }, hand) hr
        have c2 := cntR_set { p with marked := true } hp
        simp only at c1 c2
        first | exact e5 | (simp only [Bool.toNat_true] ; omega) | omega
      · simp only [if_neg ht]
        have c1 := cntS_set (l.set k Pl.none, hand) hr
        have c2 := cntR_set Pl.none hp
        have hh : p.held = true := (key_of hk).1
        simp only [hh, Pl.none, Bool.toNat_true, Bool.toNat_false] at c1 c2
        first | exact e5 | (simp only [Bool.toNat_false, Pl.none] ; omega) | omega
theorem CI.put {asked hits n : Nat} {S : St} (h : CI asked hits S) (ho : S.ok n) (tag s o a : Int) (al : Bool) : CI asked hits (putS n S tag s o a al) := by
  have hlt := spot_lt (n := S.rows.length) s o a ho.1
  obtain ⟨⟨l, hand⟩, hr⟩ : ∃ r, S.rows[spot S.rows.length s o a]? = some r := ⟨_, List.getElem?_eq_getElem hlt⟩
  have hcl := h.clean _ _ hr
  obtain ⟨hl, hh⟩ := ho.2.2.2.2 _ _ hr
  have e1 := h.held
  unfold putS
  simp only [hr]
  cases hf : find l s o a with
  | some k =>
    obtain ⟨p, hp, hpk⟩ := find_lt hf
    simp only [hp]
    refine ⟨h.clean.set hr fun j q hq => ?_, ?_, h.hits, h.asked, h.misses, h.ev⟩
    · rcases set_get hq with ⟨rfl, rfl⟩ | ⟨_, hq⟩
      · rcases hcl _ p hp with rfl | hh
        · rw [none_key] at hpk; cases hpk
        · exact .inr hh
      · exact hcl j q hq
    · have c1 := cntS_set (l.set k { p with tag := tag, allowed := al }, hand) hr
      have c2 := cntR_set { p with tag := tag, allowed := al } hp
      simp only at c1 c2 ⊢
      omega
  | none =>
    cases hfi : l.findIdx? Pl.isNone with
    | some k =>
      simp only []
      obtain ⟨q1, q2, _⟩ := List.findIdx?_eq_some_iff_getElem.1 hfi
      have hp : l[k]? = some Pl.none := by
        rw [List.getElem?_eq_getElem q1, (Pl.isNone_iff _).1 q2]
      refine ⟨h.clean.set hr fun j q hq => ?_, ?_, h.hits, h.asked, h.misses, h.ev⟩
      · rcases set_get hq with ⟨rfl, rfl⟩ | ⟨_, hq⟩
        · exact .inr ⟨rfl, rfl⟩
        · exact hcl j q hq
      · have c1 := cntS_set (l.set k ⟨true, s, o, a, tag, al, false⟩, hand) hr
        have c2 := cntR_set ⟨true, s, o, a, tag, al, false⟩ hp
        simp only [Pl.none, Bool.toNat_true, Bool.toNat_false] at c1 c2 ⊢
        omega
    | none =>
      have hall : ∀ (k : Nat) (p : Pl), l[k]? = some p → p.held = true ∧ spot S.rows.length p.s p.o p.a = spot S.rows.length s o a := by
        intro k p hp
        rcases hcl k p hp with rfl | hh
        · rw [List.findIdx?_eq_none_iff] at hfi
          have := hfi _ (List.mem_of_getElem? hp)
          rw [(Pl.isNone_iff _).2 rfl] at this; cases this
        · exact hh
      have hck : ∀ (k : Nat) (p : Pl), (clock n n l hand).1[k]? = some p → p.held = true ∧ spot S.rows.length p.s p.o p.a = spot S.rows.length s o a := by
        intro k p hp
        obtain ⟨q, hq, e⟩ := clock_get n n l hand k p hp
        have := hall k q hq
        rw [← e]; exact this
      simp only [full]
      have hlt2 : (clock n n l hand).2 < (clock n n l hand).1.length := by
        rw [clock_len, hl]
        exact clock_hand ho.2.2.1 n l hand hh
      refine ⟨h.clean.set hr fun j q hq => ?_, ?_, h.hits, h.asked, h.misses, by have := h.ev; simp only; omega⟩
      · rcases set_get hq with ⟨rfl, rfl⟩ | ⟨_, hq⟩
        · exact .inr ⟨rfl, rfl⟩
        · exact .inr (hck j q hq)
      · have c1 := cntS_set ((clock n n l hand).1.set (clock n n l hand).2 ⟨true, s, o, a, tag, al, false⟩, ((clock n n l hand).2 + 1) % n) hr
        have hp := List.getElem?_eq_getElem hlt2
        have c2 := cntR_set ⟨true, s, o, a, tag, al, false⟩ hp
        have c3 := (hck _ _ hp).1
        have c4 := cntR_clock n n l hand
        rw [c3] at c2
        simp only [Bool.toNat_true] at c1 c2 ⊢
        omega
/-! ### what is told in the end -/
theorem lastPut_spec {xs : List Ac} {s o a : Int} {b : Ac} (h : lastPut xs s o a = some b) : b ∈ xs ∧ isPut b s o a = true := by
  induction xs with
  | nil => cases h
  | cons z l ih =>
    unfold lastPut at h
    split at h
    · rename_i q hq; cases h
      exact ⟨List.mem_cons_of_mem _ (ih hq).1, (ih hq).2⟩
    · split at h
      · rename_i hz; cases h; exact ⟨List.mem_cons_self, hz⟩
      · cases h
def firstB (xs : List Ac) (i : Nat) (x : Ac) : Bool := (xs.take i).all fun y => !isPut y x.s x.o x.a
/-- is the i-th act counted? -/
def tolds (xs : List Ac) (S : St) (i : Nat) : Bool :=
  match xs[i]? with
  | none => false
  | some x => match lastPut xs x.s x.o x.a with
    | none => false
    | some b => x.do_ == 2 && (firstB xs i x && (getS S b.tag x.s x.o x.a).1.2)
def triOf (xs : List Ac) (i : Nat) : Int × Int × Int := match xs[i]? with | none => (0, 0, 0) | some x => (x.s, x.o, x.a)
theorem sub_len {α : Type} [DecidableEq α] : ∀ (l ks : List α), l.Nodup → (∀ x ∈ l, x ∈ ks) → l.length ≤ ks.length
  | [], _, _, _ => Nat.zero_le _
  | y :: l, ks, hn, hs => by
    obtain ⟨h1, h2⟩ := List.nodup_cons.1 hn
    have hy := hs y List.mem_cons_self
    have := sub_len l (ks.erase y) h2 fun z hz => (List.mem_erase_of_ne (fun e : z = y => h1 (by rw [← e]; exact hz))).2 (hs z (List.mem_cons_of_mem _ hz))
    rw [List.length_erase_of_mem hy] at this
    have := List.length_pos_of_mem hy
    simp only [List.length_cons]
    omega
def heldL (R : List (List Pl × Nat)) : List (Int × Int × Int) := R.flatMap fun r => (r.1.filter (·.held)).map Pl.tri
theorem heldL_len (R : List (List Pl × Nat)) : (heldL R).length = cntS R := by
  induction R with
  | nil => rfl
  | cons x R ih =>
    simp only [heldL, List.flatMap_cons, List.length_append, List.length_map] at *
    rw [ih, ← List.countP_eq_length_filter]
    rfl
theorem heldL_mem {S : St} (hc : Clean S) (x : Int × Int × Int) : x ∈ heldL S.rows ↔ ∃ t al, In S x.1 x.2.1 x.2.2 t al := by
  unfold heldL
  rw [List.mem_flatMap]
  constructor
  · rintro ⟨r, hr, hx⟩
    obtain ⟨p, hp, rfl⟩ := List.mem_map.1 hx
    obtain ⟨hp, hh⟩ := List.mem_filter.1 hp
    obtain ⟨i, hi⟩ := List.getElem?_of_mem hr
    obtain ⟨k, hk⟩ := List.getElem?_of_mem hp
    rcases hc i r hi k p hk with rfl | ⟨_, hs⟩
    · cases hh
    · exact ⟨p.tag, p.allowed, r, by show S.rows[spot S.rows.length p.s p.o p.a]? = _; rw [hs]; exact hi, k, p, hk, self_key hh, rfl, rfl⟩
  · rintro ⟨t, al, r, hr, k, p, hk, hp, _⟩
    obtain ⟨h1, h2, h3, h4⟩ := key_of hp
    exact ⟨r, List.mem_of_getElem? hr, List.mem_map.2 ⟨p, List.mem_filter.2 ⟨List.mem_of_getElem? hk, h1⟩, by unfold Pl.tri; rw [h2, h3, h4]⟩⟩
theorem heldL_nodup {S : St} (hc : Clean S) (hu : Uniq S) : (heldL S.rows).Nodup := by
  unfold heldL
  rw [List.nodup_iff_pairwise_ne, List.pairwise_flatMap]
  constructor
  · intro r hr
    obtain ⟨i, hi⟩ := List.getElem?_of_mem hr
    rw [List.pairwise_map, List.pairwise_filter, List.pairwise_iff_getElem]
    intro j k hj hk hjk h1 h2 e
    have g1 := self_key h1
    have g2 := self_key h2
    simp only [Pl.tri, Prod.mk.injEq] at e
    rw [← e.1, ← e.2.1, ← e.2.2] at g2
    have := hu i r hi _ _ _ j k _ _ (List.getElem?_eq_getElem hj) (List.getElem?_eq_getElem hk) g1 g2
    omega
  · rw [List.pairwise_iff_getElem]
    intro i j hi hj hij x hx y hy e
    obtain ⟨p, hp, rfl⟩ := List.mem_map.1 hx
    obtain ⟨q, hq, rfl⟩ := List.mem_map.1 hy
    obtain ⟨hp, hh⟩ := List.mem_filter.1 hp
    obtain ⟨hq, hh'⟩ := List.mem_filter.1 hq
    obtain ⟨k, hk⟩ := List.getElem?_of_mem hp
    obtain ⟨k', hk'⟩ := List.getElem?_of_mem hq
    rcases hc i _ (List.getElem?_eq_getElem hi) k p hk with rfl | ⟨_, hs⟩
    · cases hh
    · rcases hc j _ (List.getElem?_eq_getElem hj) k' q hk' with rfl | ⟨_, hs'⟩
      · cases hh'
      · simp only [Pl.tri, Prod.mk.injEq] at e
        rw [e.1, e.2.1, e.2.2, hs'] at hs
        omega
/-- what is told is what is held -/
theorem told_all {xs : List Ac} {S : St} {asked hits : Nat} (h : TI xs S) (hc : CI asked hits S) : (((List.range xs.length).filter (tolds xs S)).length : Nat) = cntS S.rows := by
  have hmem : ∀ x, x ∈ ((List.range xs.length).filter (tolds xs S)).map (triOf xs) ↔ ∃ t al, In S x.1 x.2.1 x.2.2 t al := by
    intro x
    rw [List.mem_map]
    constructor
    · rintro ⟨i, hi, rfl⟩
      obtain ⟨_, hi⟩ := List.mem_filter.1 hi
      unfold tolds at hi
      unfold triOf
      split at hi
      · cases hi
      · rename_i x hx
        simp only [hx]
        split at hi
        · cases hi
        · rename_i b hb
          simp only [Bool.and_eq_true] at hi
          exact ⟨_, _, getS_hit hi.2.2⟩
    · rintro ⟨t, al, hin⟩
      obtain ⟨s, o, a⟩ := x
      obtain ⟨b, hb, hbt, hba⟩ := h.last _ _ _ _ _ hin
      obtain ⟨hm, hp⟩ := lastPut_spec hb
      obtain ⟨i, hi⟩ : ∃ i, xs.findIdx? (isPut · s o a) = some i := by
        cases hf : xs.findIdx? (isPut · s o a) with
        | some i => exact ⟨i, rfl⟩
        | none =>
          rw [List.findIdx?_eq_none_iff] at hf
          have hp2 : isPut b s o a = true := hp
          rw [hf b hm] at hp2; cases hp2
      obtain ⟨q1, q2, q3⟩ := List.findIdx?_eq_some_iff_getElem.1 hi
      have hx := List.getElem?_eq_getElem q1
      generalize xs[i] = x at q2 hx
      obtain ⟨d1, d2, d3, d4⟩ := isPut_key q2
      refine ⟨i, List.mem_filter.2 ⟨List.mem_range.2 q1, ?_⟩, ?_⟩
      · unfold tolds
        simp only [hx]
        have hb' : lastPut xs x.s x.o x.a = some b := by rw [d2, d3, d4]; exact hb
        simp only [hb']
        have ht : (getS S b.tag x.s x.o x.a).1.2 = true := by
          rw [d2, d3, d4, hbt]
          rw [getS_told h.uniq hin]
        have hfb : firstB xs i x = true := by
          unfold firstB
          rw [List.all_eq_true]
          intro y hy
          obtain ⟨j, hj⟩ := List.getElem?_of_mem hy
          rw [List.getElem?_take] at hj
          split at hj
          · rename_i hji
            have hjl : j < xs.length := (List.getElem?_eq_some_iff.1 hj).1
            have := q3 j hji
            rw [List.getElem?_eq_getElem hjl] at hj
            cases hj
            rw [d2, d3, d4]
            simpa using this
          · cases hj
        rw [ht, hfb, d1]; rfl
      · unfold triOf
        simp only [hx]
        rw [d2, d3, d4]
  have hnd : (((List.range xs.length).filter (tolds xs S)).map (triOf xs)).Nodup := by
    rw [List.nodup_iff_pairwise_ne, List.pairwise_map, List.pairwise_filter]
    refine (List.pairwise_lt_range (n := xs.length)).imp ?_
    intro i j hij hi hj e
    unfold tolds at hi hj
    unfold triOf at e
    split at hi
    · cases hi
    · rename_i x hx
      split at hi
      · cases hi
      · split at hj
        · cases hj
        · rename_i y hy
          split at hj
          · cases hj
          · simp only [Bool.and_eq_true, beq_iff_eq] at hi hj
            simp only [hx, hy, Prod.mk.injEq] at e
            have := hj.2.1
            unfold firstB at this
            rw [List.all_eq_true] at this
            have hm : x ∈ xs.take j := List.mem_of_getElem? (i := i) (by rw [List.getElem?_take, if_pos hij]; exact hx)
            have := this x hm
            simp [isPut, hi.1, e.1, e.2.1, e.2.2] at this
  have l1 := sub_len _ (heldL S.rows) hnd fun x hx => (heldL_mem hc.clean x).2 ((hmem x).1 hx)
  have l2 := sub_len (heldL S.rows) _ (heldL_nodup hc.clean h.uniq) fun x hx => (hmem x).2 ((heldL_mem hc.clean x).1 hx)
  rw [heldL_len, List.length_map] at *
  omega
/-- the same is held -/
def Alike (S S' : St) : Prop := ∀ s o a t al, In S' s o a t al ↔ In S s o a t al
theorem Alike.get {xs : List Ac} {S S' : St} (hT : TI xs S) (h : Alike S S') {s o a : Int} {b : Ac} (hb : lastPut xs s o a = some b) : Alike S (getS S' b.tag s o a).2 := by
  intro s' o' a' t al
  constructor
  · intro hi; exact (h _ _ _ _ _).1 (getS_in hi)
  · intro hi
    refine getS_keep ((h _ _ _ _ _).2 hi) ?_
    by_cases e : s' = s ∧ o' = o ∧ a' = a
    · obtain ⟨rfl, rfl, rfl⟩ := e
      obtain ⟨b', hb', ht, _⟩ := hT.last _ _ _ _ _ hi
      rw [hb] at hb'; cases hb'
      exact .inr ht.symm
    · exact .inl e
theorem Alike.same {xs : List Ac} {S S' : St} (hT : TI xs S) (hu : Uniq S') (h : Alike S S') {s o a : Int} {b : Ac} (hb : lastPut xs s o a = some b) :
    (getS S' b.tag s o a).1 = (getS S b.tag s o a).1 ∧ ((getS S' b.tag s o a).1.2 = true → (getS S' b.tag s o a).1.1 = b.al) := by
  by_cases hin : ∃ al, In S s o a b.tag al
  · obtain ⟨al, hin⟩ := hin
    have h1 := getS_told hT.uniq hin
    have h2 := getS_told hu ((h _ _ _ _ _).2 hin)
    obtain ⟨b', hb', _, ha⟩ := hT.last _ _ _ _ _ hin
    rw [hb] at hb'; cases hb'
    rw [h1, h2]
    exact ⟨rfl, fun _ => ha.symm⟩
  · have hno : ∀ t al, ¬ In S s o a t al := by
      intro t al hi
      obtain ⟨b', hb', ht, _⟩ := hT.last _ _ _ _ _ hi
      rw [hb] at hb'; cases hb'
      rw [← ht] at hi
      exact hin ⟨al, hi⟩
    have h1 := getS_not (tag := b.tag) hno
    have h2 := getS_not (S := S') (tag := b.tag) (s := s) (o := o) (a := a) fun t al hi => hno t al ((h _ _ _ _ _).1 hi)
    rw [h1, h2]
    exact ⟨rfl, fun h => by cases h⟩
theorem tolds_step (xs : List Ac) (S : St) (k : Nat) : ((List.range (k + 1)).filter (tolds xs S)).length = ((List.range k).filter (tolds xs S)).length + (tolds xs S k).toNat := by
  rw [List.range_succ, List.filter_append, List.length_append]
  cases h : tolds xs S k <;> simp [h]
end Go.Proofs.Ythojgfnaanckeaa

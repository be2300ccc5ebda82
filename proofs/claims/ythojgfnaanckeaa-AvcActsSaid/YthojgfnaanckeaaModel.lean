/- A cache as it turns: Get and Put, whole. -/
import Derived.Test.YthojgfnaanckeaaFull
namespace Go.Proofs.Ythojgfnaanckeaa
open Go.RowKit Go.Mm
def St.ok (n : Nat) (S : St) : Prop := 1 ≤ S.rows.length ∧ S.rows.length ≤ 256 ∧ 1 ≤ n ∧ n ≤ 8 ∧ ∀ (i : Nat) (r : List Pl × Nat), S.rows[i]? = some r → r.1.length = n ∧ r.2 < n
/-- counts are small -/
def St.small (S : St) (k : Nat) : Prop := 0 ≤ S.hits ∧ S.hits ≤ k ∧ 0 ≤ S.misses ∧ S.misses ≤ k ∧ 0 ≤ S.ev ∧ S.ev ≤ k ∧ -(k : Int) ≤ S.held ∧ S.held ≤ k
def getS (S : St) (tag s o a : Int) : (Bool × Bool) × St :=
  match S.rows[spot S.rows.length s o a]? with
  | none => ((false, false), S)
  | some (l, hand) => match find l s o a with
    | none => ((false, false), { S with misses := S.misses + 1 })
    | some k => match l[k]? with
      | none => ((false, false), S)
      | some p => if p.tag = tag then ((p.allowed, true), { S with rows := S.rows.set (spot S.rows.length s o a) (l.set k { p with marked := true }, hand), hits := S.hits + 1 })
        else ((false, false), { S with rows := S.rows.set (spot S.rows.length s o a) (l.set k Pl.none, hand), misses := S.misses + 1, held := S.held - 1 })
def putS (n : Nat) (S : St) (tag s o a : Int) (al : Bool) : St :=
  match S.rows[spot S.rows.length s o a]? with
  | none => S
  | some (l, hand) => match find l s o a with
    | some k => match l[k]? with
      | none => S
      | some p => { S with rows := S.rows.set (spot S.rows.length s o a) (l.set k { p with tag := tag, allowed := al }, hand) }
    | none => match l.findIdx? Pl.isNone with
      | some k => { S with rows := S.rows.set (spot S.rows.length s o a) (l.set k ⟨true, s, o, a, tag, al, false⟩, hand), held := S.held + 1 }
      | none => full n S tag s o a al (spot S.rows.length s o a) l hand
theorem find_lt {l : List Pl} {s o a : Int} {k : Nat} (h : find l s o a = some k) : ∃ p, l[k]? = some p ∧ p.key s o a = true := by
  unfold find at h
  rw [List.findIdx?_eq_some_iff_getElem] at h
  obtain ⟨q1, q2, q3⟩ := h
  exact ⟨_, List.getElem?_eq_getElem q1, q2⟩
theorem get_any (b n : Nat) (S : St) (tag s o a : Int) (K : Nat) (w : World) (h : CacheB w b n S) (ho : S.ok n) (hs : S.small K) (hK : K ≤ 9223372036854775806) :
    Calls Try.prog 19 #[.pointer (some ⟨b + 1, 0, none⟩), .int .i64 tag, .int .i64 s, .int .i64 o, .int .i64 a] w (GetEnds b n S (getS S tag s o a).1.1 (getS S tag s o a).1.2 (getS S tag s o a).2 w) := by
  obtain ⟨h1, h2, h3, h4, h5⟩ := ho
  obtain ⟨s1, s2, s3, s4, s5, s6, s7, s8⟩ := hs
  have hlt := spot_lt (n := S.rows.length) s o a h1
  obtain ⟨⟨l, hand⟩, hr⟩ : ∃ r, S.rows[spot S.rows.length s o a]? = some r := ⟨_, List.getElem?_eq_getElem hlt⟩
  cases hf : find l s o a with
  | none =>
    have e : getS S tag s o a = ((false, false), { S with misses := S.misses + 1 }) := by unfold getS; rw [hr]; simp only [hf]
    rw [e]
    exact get_none b n S tag s o a _ l hand w h h1 h2 h4 rfl hr hf ⟨s3, by omega⟩
  | some k =>
    obtain ⟨p, hp, _⟩ := find_lt hf
    by_cases ht : p.tag = tag
    · have e : getS S tag s o a = ((p.allowed, true), { S with rows := S.rows.set (spot S.rows.length s o a) (l.set k { p with marked := true }, hand), hits := S.hits + 1 }) := by
        unfold getS; rw [hr]; simp only [hf, hp, if_pos ht]
      rw [e]
      exact get_hit b n S tag s o a _ k l hand p w h h1 h2 h4 rfl hr hf hp ht ⟨s1, by omega⟩
    · have e : getS S tag s o a = ((false, false), { S with rows := S.rows.set (spot S.rows.length s o a) (l.set k Pl.none, hand), misses := S.misses + 1, held := S.held - 1 }) := by
        unfold getS; rw [hr]; simp only [hf, hp, if_neg ht]
      rw [e]
      exact get_other b n S tag s o a _ k l hand p w h h1 h2 h4 rfl hr hf hp ht ⟨s3, by omega⟩ ⟨by omega, by omega⟩
theorem put_any (b n : Nat) (S : St) (tag s o a : Int) (al : Bool) (K : Nat) (w : World) (h : CacheB w b n S) (ho : S.ok n) (hs : S.small K) (hK : K ≤ 9223372036854775806) :
    Calls Try.prog 18 #[.pointer (some ⟨b + 1, 0, none⟩), .int .i64 tag, .int .i64 s, .int .i64 o, .int .i64 a, .bool al] w (PutEnds b n S (putS n S tag s o a al) w) := by
  obtain ⟨h1, h2, h3, h4, h5⟩ := ho
  obtain ⟨s1, s2, s3, s4, s5, s6, s7, s8⟩ := hs
  have hlt := spot_lt (n := S.rows.length) s o a h1
  obtain ⟨⟨l, hand⟩, hr⟩ : ∃ r, S.rows[spot S.rows.length s o a]? = some r := ⟨_, List.getElem?_eq_getElem hlt⟩
  cases hf : find l s o a with
  | some k =>
    obtain ⟨p, hp, _⟩ := find_lt hf
    have e : putS n S tag s o a al = { S with rows := S.rows.set (spot S.rows.length s o a) (l.set k { p with tag := tag, allowed := al }, hand) } := by unfold putS; rw [hr]; simp only [hf, hp]
    rw [e]
    exact put_again b n S tag s o a al _ k l hand p w h h1 h2 h4 rfl hr hf hp
  | none =>
    cases hk : l.findIdx? Pl.isNone with
    | some k =>
      have e : putS n S tag s o a al = { S with rows := S.rows.set (spot S.rows.length s o a) (l.set k ⟨true, s, o, a, tag, al, false⟩, hand), held := S.held + 1 } := by unfold putS; rw [hr]; simp only [hf, hk]
      rw [e]
      exact put_free b n S tag s o a al _ l hand w h h1 h2 h4 rfl hr hf k hk ⟨by omega, by omega⟩
    | none =>
      have e : putS n S tag s o a al = full n S tag s o a al (spot S.rows.length s o a) l hand := by unfold putS; rw [hr]; simp only [hf, hk]
      rw [e]
      exact put_full b n S tag s o a al _ l hand w h h1 h2 h3 h4 rfl hr (h5 _ _ hr).2 hf hk ⟨s5, by omega⟩
theorem St.small.more {S : St} {k j : Nat} (h : S.small k) (hj : k ≤ j) : S.small j := by
  obtain ⟨s1, s2, s3, s4, s5, s6, s7, s8⟩ := h
  exact ⟨s1, by omega, s3, by omega, s5, by omega, by omega, by omega⟩
theorem getS_small {S : St} {k : Nat} (tag s o a : Int) (h : S.small k) : (getS S tag s o a).2.small (k + 1) := by
  have h' := h.more (Nat.le_succ k)
  obtain ⟨s1, s2, s3, s4, s5, s6, s7, s8⟩ := h
  unfold getS
  repeat' split
  all_goals first | exact h' | exact ⟨by simp only; omega, by simp only; omega, by simp only; omega, by simp only; omega, by simp only; omega, by simp only; omega, by simp only; omega, by simp only; omega⟩
theorem putS_small {n : Nat} {S : St} {k : Nat} (tag s o a : Int) (al : Bool) (h : S.small k) : (putS n S tag s o a al).small (k + 1) := by
  have h' := h.more (Nat.le_succ k)
  obtain ⟨s1, s2, s3, s4, s5, s6, s7, s8⟩ := h
  unfold putS full
  repeat' split
  all_goals first | exact h' | exact ⟨by simp only; omega, by simp only; omega, by simp only; omega, by simp only; omega, by simp only; omega, by simp only; omega, by simp only; omega, by simp only; omega⟩
theorem ok_set {n : Nat} {S : St} (h : S.ok n) {i : Nat} {r : List Pl × Nat} (hl : r.1.length = n) (hh : r.2 < n) (x y z u : Int) : St.ok n ⟨S.rows.set i r, x, y, z, u⟩ := by
  obtain ⟨h1, h2, h3, h4, h5⟩ := h
  refine ⟨by simpa using h1, by simpa using h2, h3, h4, fun j q hj => ?_⟩
  simp only [List.getElem?_set] at hj
  split at hj
  · split at hj
    · cases hj; exact ⟨hl, hh⟩
    · cases hj
  · exact h5 j q hj
theorem getS_ok {n : Nat} {S : St} (tag s o a : Int) (h : S.ok n) : (getS S tag s o a).2.ok n := by
  have h5 := h.2.2.2.2
  unfold getS
  split
  · exact h
  · rename_i l hand hr
    have := h5 _ _ hr
    split
    · exact ⟨h.1, h.2.1, h.2.2.1, h.2.2.2.1, h5⟩
    · split
      · exact h
      · split
        · exact ok_set h (r := (_, hand)) ((List.length_set ..).trans this.1) (show hand < n from this.2) _ _ _ _
        · exact ok_set h (r := (_, hand)) ((List.length_set ..).trans this.1) (show hand < n from this.2) _ _ _ _
theorem clock_len (n : Nat) : ∀ (f : Nat) (l : List Pl) (h : Nat), (clock n f l h).1.length = l.length
  | 0, l, h => rfl
  | f + 1, l, h => by
    unfold clock
    split
    · split
      · rw [clock_len n f]; simp
      · rfl
    · rfl
theorem putS_ok {n : Nat} {S : St} (tag s o a : Int) (al : Bool) (h : S.ok n) : (putS n S tag s o a al).ok n := by
  have h5 := h.2.2.2.2
  unfold putS
  split
  · exact h
  · rename_i l hand hr
    have := h5 _ _ hr
    split
    · split
      · exact h
      · exact ok_set h (r := (_, hand)) ((List.length_set ..).trans this.1) (show hand < n from this.2) _ _ _ _
    · split
      · exact ok_set h (r := (_, hand)) ((List.length_set ..).trans this.1) (show hand < n from this.2) _ _ _ _
      · exact ok_set h (by simp [clock_len, this.1]) (Nat.mod_lt _ (by have := h.2.2.1; omega)) _ _ _ _
theorem new_ok {s n : Nat} (h1 : 1 ≤ s) (h2 : s ≤ 256) (h3 : 1 ≤ n) (h4 : n ≤ 8) : (St.new s n).ok n := by
  refine ⟨by simpa [St.new] using h1, by simpa [St.new] using h2, h3, h4, fun i r hi => ?_⟩
  simp only [St.new, List.getElem?_replicate] at hi
  split at hi
  · cases hi; exact ⟨by simp, h3⟩
  · cases hi
theorem new_small (s n : Nat) : (St.new s n).small 0 := ⟨Int.le_refl _, Int.le_refl _, Int.le_refl _, Int.le_refl _, Int.le_refl _, Int.le_refl _, Int.le_refl _, Int.le_refl _⟩
end Go.Proofs.Ythojgfnaanckeaa

/- The plain law of AvcRoom, over its Puts and Gets; the count of hits is free. -/
import Derived.Test.YthojgfnaanckeaaRoomN
import Derived.Test.YthojgfnaanckeaaTrueW
namespace Go.Proofs.Ythojgfnaanckeaa
open Go.RowKit Go.Mm
/-- what the law says of a cache, and of the Puts so far: all of one tag -/
structure RI (n : Nat) (tag : Int) (ks : List (Int × Int × Int)) (ps : List Ac) (S : St) (j : Nat) : Prop where
  ok : S.ok n
  bound : -(j : Int) ≤ S.held ∧ S.held ≤ j
  uniq : Uniq S
  clean : Clean S
  ev : S.ev = 0
  misses : S.misses = 0
  keys : ∀ s o a t b, In S s o a t b → (s, o, a) ∈ ks
  len : ks.length ≤ n
  puts : ∀ y ∈ ps, y.do_ = 2 ∧ y.tag = tag ∧ (y.s, y.o, y.a) ∈ ks
  held : ∀ s o a y, lastPut ps s o a = some y → In S s o a tag y.al
theorem isPut_key {y : Ac} {s o a : Int} (h : isPut y s o a = true) : y.do_ = 2 ∧ y.s = s ∧ y.o = o ∧ y.a = a := by
  unfold isPut at h
  simp only [Bool.and_eq_true, beq_iff_eq] at h
  exact ⟨h.1, h.2.1, h.2.2.1, h.2.2.2⟩
theorem putS_held_le {n : Nat} {S : St} {j : Nat} {tag s o a : Int} {al : Bool} (h : -(j : Int) ≤ S.held ∧ S.held ≤ j) : -((j + 1 : Nat) : Int) ≤ (putS n S tag s o a al).held ∧ (putS n S tag s o a al).held ≤ ((j + 1 : Nat) : Int) := by
  unfold putS full
  repeat' split
  all_goals (constructor <;> (try simp only) <;> omega)
theorem RI.put {n : Nat} {tag : Int} {ks : List (Int × Int × Int)} {ps : List Ac} {S : St} {j : Nat} (h : RI n tag ks ps S j) (y : Ac) (hd : y.do_ = 2) (ht : y.tag = tag) (hk : (y.s, y.o, y.a) ∈ ks) :
    RI n tag ks (ps ++ [y]) (putS n S tag y.s y.o y.a y.al) (j + 1) := by
  obtain ⟨r1, r2, r3, r4⟩ := put_room (al := y.al) (tag := tag) h.ok h.uniq h.clean h.len h.keys hk
  refine ⟨putS_ok _ _ _ _ _ h.ok, putS_held_le h.bound, putS_uniq _ _ _ _ _ h.uniq, r3, by rw [r1, h.ev], by rw [r2, h.misses], fun s o a t b hin => ?_, h.len, fun z hz => ?_, fun s o a z hz => ?_⟩
  · rcases putS_in h.uniq h.ok.1 hin with ⟨⟨rfl, rfl, rfl⟩, _⟩ | ⟨_, hin⟩
    · exact hk
    · exact h.keys _ _ _ _ _ hin
  · rcases List.mem_append.1 hz with hz | hz
    · exact h.puts z hz
    · rw [List.mem_singleton.1 hz]; exact ⟨hd, ht, hk⟩
  · rw [lastPut_snoc] at hz
    split at hz
    · rename_i hp
      cases hz
      obtain ⟨_, rfl, rfl, rfl⟩ := isPut_key hp
      exact putS_held _ _ _ _ _ h.ok
    · rename_i hp
      refine r4 _ _ _ _ _ (h.held s o a z hz) fun e => hp ?_
      obtain ⟨rfl, rfl, rfl⟩ := e
      simp [isPut, hd]
theorem getS_hit_misses {S : St} {tag s o a : Int} (h : (getS S tag s o a).1.2 = true) : (getS S tag s o a).2.misses = S.misses := by
  unfold getS at h ⊢
  split
  · rfl
  · rename_i l hand hr
    simp only [hr] at h
    split
    · rename_i hf
      simp only [hf] at h; cases h
    · rename_i k hf
      simp only [hf] at h
      split
      · rfl
      · rename_i p hp
        simp only [hp] at h
        split
        · rfl
        · rename_i ht
          rw [if_neg ht] at h; cases h
theorem getS_hit_held {S : St} {tag s o a : Int} (h : (getS S tag s o a).1.2 = true) : (getS S tag s o a).2.held = S.held := by
  unfold getS at h ⊢
  split
  · rfl
  · rename_i l hand hr
    simp only [hr] at h
    split
    · rename_i hf
      simp only [hf] at h; cases h
    · rename_i k hf
      simp only [hf] at h
      split
      · rfl
      · rename_i p hp
        simp only [hp] at h
        split
        · rfl
        · rename_i ht
          rw [if_neg ht] at h; cases h
/-- a Get of what was put: a hit, and nothing turns but marks -/
theorem RI.get {n : Nat} {tag : Int} {ks : List (Int × Int × Int)} {ps : List Ac} {S : St} {j : Nat} (h : RI n tag ks ps S j) {s o a : Int} {y : Ac} (hy : lastPut ps s o a = some y) :
    (getS S tag s o a).1 = (y.al, true) ∧ ∀ x, RI n tag ks ps { (getS S tag s o a).2 with hits := x } j := by
  have hin := h.held _ _ _ _ hy
  have told := getS_told h.uniq hin
  refine ⟨told, fun x => ⟨getS_ok _ _ _ _ h.ok, ?_, getS_uniq _ _ _ _ h.uniq, h.clean.get _ _ _ _, (getS_ev ..).trans h.ev, ?_, fun s' o' a' t b hi => h.keys _ _ _ _ _ (getS_in hi), h.len, h.puts, fun s' o' a' z hz => getS_keep (h.held _ _ _ _ hz) (.inr rfl)⟩⟩
  · show -(j : Int) ≤ (getS S tag s o a).2.held ∧ (getS S tag s o a).2.held ≤ j
    rw [getS_hit_held (by rw [told])]; exact h.bound
  · exact (getS_hit_misses (by rw [told])).trans h.misses
theorem lastPut_mem {ps : List Ac} {y : Ac} (hy : y ∈ ps) (hd : y.do_ = 2) : ∃ z, lastPut ps y.s y.o y.a = some z ∧ z ∈ ps ∧ z.s = y.s ∧ z.o = y.o ∧ z.a = y.a := by
  induction ps with
  | nil => cases hy
  | cons x l ih =>
    unfold lastPut
    cases e : lastPut l y.s y.o y.a with
    | some z =>
      refine ⟨z, rfl, ?_⟩
      have : z ∈ l ∧ isPut z y.s y.o y.a = true := by
        clear ih hy
        induction l with
        | nil => cases e
        | cons q l ih =>
          unfold lastPut at e
          split at e
          · rename_i z' hz'; cases e
            obtain ⟨h1, h2⟩ := ih hz'
            exact ⟨List.mem_cons_of_mem _ h1, h2⟩
          · split at e
            · rename_i hq; cases e; exact ⟨List.mem_cons_self, hq⟩
            · cases e
      obtain ⟨_, h1, h2, h3⟩ := isPut_key this.2
      exact ⟨List.mem_cons_of_mem _ this.1, h1, h2, h3⟩
    | none =>
      rcases List.mem_cons.1 hy with rfl | hy
      · have : isPut y y.s y.o y.a = true := by simp [isPut, hd]
        simp only [this, if_true]
        exact ⟨y, rfl, List.mem_cons_self, rfl, rfl, rfl⟩
      · obtain ⟨z, hz, _⟩ := ih hy
        rw [hz] at e; cases e
end Go.Proofs.Ythojgfnaanckeaa

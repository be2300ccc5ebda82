/- The plain law of AvcTrue: a cache is never wrong. -/
import Derived.Test.YthojgfnaanckeaaHold
namespace Go.Proofs.Ythojgfnaanckeaa
open Go.RowKit Go.Mm
theorem which_any (x : Int) (m : Nat) (w : World) (hm : 1 ≤ m) (hm' : m ≤ 256) :
    Calls Try.prog 17 #[.int .i64 x, .int .i64 (m : Nat)] w fun e w' => e = .returned (.int .i64 (((x % (m : Int)).toNat + 1 : Nat))) ∧ w' = w := by
  have hz : ((m : Int) == 0) = false := by simp; omega
  have hr := Mm.hid (tmod_emod x m (by omega))
  have q1 := Int.emod_nonneg x (show (m : Int) ≠ 0 by omega)
  have q2 := Int.emod_lt_of_pos x (show (0 : Int) < m by omega)
  have e1 : ((((x % (m : Int)).toNat + 1 : Nat)) : Int) = x % (m : Int) + 1 := by omega
  rw [e1, ← hr.out]
  rw [← hr.out] at q1 q2
  clear e1 hr
  by_cases h : x.tmod m < 0
  · rw [if_pos h] at q1 q2 ⊢
    go_enter Try.func17, Try.ntmps17
    go_wp2
    go_ret
    exact ⟨rfl, rfl⟩
  · rw [if_neg h] at q1 q2 ⊢
    go_enter Try.func17, Try.ntmps17
    go_wp2
    go_ret
    exact ⟨rfl, rfl⟩
theorem eq45 (d : Nat) (p q : Ac) (W : World) : (Op.equalIn (d + 2) 45 (aV p) (aV q)).run Try.prog W = .ok (p.do_ == q.do_ && (p.tag == q.tag && (p.s == q.s && (p.o == q.o && (p.a == q.a && p.al == q.al))))) W := by
  obtain ⟨i3, hi3, z3⟩ := Option.map_eq_some_iff.1 info3
  obtain ⟨i4, hi4, z4⟩ := Option.map_eq_some_iff.1 info4
  simp only [Prod.mk.injEq] at z3 z4
  unfold aV
  rw [run_equalIn_struct W (d + 1) 45 _ _ (by kernel_rfl) (by kernel_rfl)]
  have hf : Try.prog.fieldsOf 45 = (match Try.prog.underlying 45 with | some (.struct fs) => fs | _ => #[]) := rfl
  rw [hf, Try.underlying45]
  simp [Op.eqFields, part, run_sizeOf, hi3, hi4, run_equalIn_int _ 3 .i64 _ _ _ Try.underlying3, run_equalIn_bool _ _ 4 _ _ Try.underlying4]
  by_cases h0 : p.do_ = q.do_ <;> by_cases h1 : p.tag = q.tag <;> by_cases h2 : p.s = q.s <;> by_cases h3 : p.o = q.o <;> by_cases h4 : p.a = q.a <;> by_cases h5 : p.al = q.al <;> simp [h0, h1, h2, h3, h4, h5]
theorem CacheB.top {w : World} {b n : Nat} {S : St} (h : CacheB w b n S) (hl : 1 ≤ S.rows.length) : b + 2 + S.rows.length ≤ w.heap.size := by
  have := (h.rows (S.rows.length - 1) _ (List.getElem?_eq_getElem (by omega))).2.lt
  omega
/-- what the law says of a cache, and of the acts so far -/
structure TI (pre : List Ac) (S : St) : Prop where
  uniq : Uniq S
  last : ∀ s o a t al, In S s o a t al → ∃ b, lastPut pre s o a = some b ∧ b.tag = t ∧ b.al = al
  just : ∀ y, pre.getLast? = some y → y.do_ = 2 → In S y.s y.o y.a y.tag y.al
theorem TI.none {pre : List Ac} {S : St} {x : Ac} (h : TI pre S) (h2 : x.do_ ≠ 2) : TI (pre ++ [x]) S := by
  refine ⟨h.uniq, fun s o a t al hi => ?_, fun y hy hd => ?_⟩
  · rw [lastPut_snoc]
    have : isPut x s o a = false := by unfold isPut; rw [beq_eq_false_iff_ne.2 h2]; rfl
    rw [this]; exact h.last s o a t al hi
  · rw [List.getLast?_concat] at hy
    cases hy; exact absurd hd h2
theorem TI.get {pre : List Ac} {S : St} {x : Ac} (h : TI pre S) (h2 : x.do_ ≠ 2) : TI (pre ++ [x]) (getS S x.tag x.s x.o x.a).2 := by
  have h' := h.none h2
  refine ⟨getS_uniq _ _ _ _ h.uniq, fun s o a t al hi => h'.last s o a t al (getS_in hi), fun y hy hd => ?_⟩
  rw [List.getLast?_concat] at hy
  cases hy; exact absurd hd h2
theorem TI.put {pre : List Ac} {S : St} {x : Ac} {n : Nat} (h : TI pre S) (ho : S.ok n) (h2 : x.do_ = 2) : TI (pre ++ [x]) (putS n S x.tag x.s x.o x.a x.al) := by
  refine ⟨putS_uniq _ _ _ _ _ h.uniq, fun s o a t al hi => ?_, fun y hy hd => ?_⟩
  · rw [lastPut_snoc]
    rcases putS_in h.uniq ho.1 hi with ⟨⟨rfl, rfl, rfl⟩, rfl, rfl⟩ | ⟨hne, hi⟩
    · have : isPut x x.s x.o x.a = true := by simp [isPut, h2]
      rw [this]; exact ⟨x, rfl, rfl, rfl⟩
    · have : isPut x s o a = false := by
        cases hp : isPut x s o a with
        | false => rfl
        | true =>
          unfold isPut at hp
          simp only [Bool.and_eq_true, beq_iff_eq] at hp
          exact absurd ⟨hp.2.1.symm, hp.2.2.1.symm, hp.2.2.2.symm⟩ hne
      rw [this]; exact h.last s o a t al hi
  · rw [List.getLast?_concat] at hy
    cases hy; exact putS_held _ _ _ _ _ ho
theorem take_snoc {xs : List Ac} {k : Nat} {x : Ac} (h : xs[k]? = some x) : xs.take (k + 1) = xs.take k ++ [x] := by
  rw [List.take_add_one, h]; rfl
/-- a hit tells the last Put -/
theorem TI.hit {pre : List Ac} {S : St} {tag s o a : Int} (h : TI pre S) (hi : (getS S tag s o a).1.2 = true) : ∃ b, lastPut pre s o a = some b ∧ b.tag = tag ∧ b.al = (getS S tag s o a).1.1 :=
  h.last _ _ _ _ _ (getS_hit hi)
/-- what was just put is told -/
theorem TI.miss {pre : List Ac} {S : St} {tag s o a : Int} {y : Ac} (h : TI pre S) (hy : pre.getLast? = some y) (hd : y.do_ = 2) {b : Ac} (hb : lastPut pre s o a = some b) (e : (b.do_ == y.do_ && (b.tag == y.tag && (b.s == y.s && (b.o == y.o && (b.a == y.a && b.al == y.al))))) = true) (ht : b.tag = tag) : (getS S tag s o a).1.2 = true := by
  simp only [Bool.and_eq_true, beq_iff_eq] at e
  obtain ⟨e1, e2, e3, e4, e5, e6⟩ := e
  have hp : isPut b s o a = true := by
    clear e1 e2 e3 e4 e5 e6 ht hy h
    induction pre with
    | nil => cases hb
    | cons z l ih =>
      unfold lastPut at hb
      split at hb
      · rename_i q hq; cases hb; exact ih hq
      · split at hb
        · rename_i hz; cases hb; exact hz
        · cases hb
  unfold isPut at hp
  simp only [Bool.and_eq_true, beq_iff_eq] at hp
  obtain ⟨p1, p2, p3, p4⟩ := hp
  have := h.just y hy hd
  rw [← e2, ← e3, ← e4, ← e5, p2, p3, p4, ht] at this
  rw [getS_told h.uniq this]
end Go.Proofs.Ythojgfnaanckeaa

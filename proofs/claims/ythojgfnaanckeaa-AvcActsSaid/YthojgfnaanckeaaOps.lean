/- What IEEE operations give on finite words, told by their values counted in least places: exact wherever the exact result is a number of the format. -/
import Derived.Test.YthojgfnaanckeaaNum
namespace Go.Proofs.Ythojgfnaanckeaa
open Go.RowKit

section
variable (f : Ieee.Format)
def sgn (s : Bool) (n : Nat) : Int := if s then -(n : Int) else n
/-- x is finite, and is z least places -/
def IsF (x : Nat) (z : Int) : Prop := ∃ s r, x = f.word s r ∧ r < f.infRung ∧ z = sgn s (rv f r)
/-- z least places are a number of the format -/
def Rep (z : Int) : Prop := (∃ a t, z.natAbs = a * 2 ^ t ∧ a < 2 * f.binade) ∧ z.natAbs < rv f f.infRung

theorem signed_sgn (s : Bool) (m u : Nat) : Ieee.signed s m u = sgn s (m * 2 ^ u) := by
  unfold Ieee.signed sgn; rw [Nat.shiftLeft_eq]
theorem sgn_mul (s : Bool) (m c : Nat) : sgn s (m * c) = sgn s m * c := by
  unfold sgn; cases s <;> simp [Int.neg_mul]
theorem natAbs_sgn (s : Bool) (m : Nat) : (sgn s m).natAbs = m := by unfold sgn; split <;> simp

theorem read_word (s : Bool) (r : Nat) (h : r < f.infRung) :
    ∃ m p, f.read (f.word s r) = .number s m p ∧ f.leastPlace ≤ p ∧ m * 2 ^ (p - f.leastPlace).toNat = rv f r := by
  have hs := f.infRung_lt
  have hb := binade_pos f
  have e1 : f.word s r % f.signWeight = r := by
    unfold Ieee.Format.word; split
    · rw [Nat.add_mod_left, Nat.mod_eq_of_lt (by omega)]
    · exact Nat.mod_eq_of_lt (by omega)
  have e2 : (f.word s r / f.signWeight % 2 == 1) = s := by
    unfold Ieee.Format.word
    cases s
    · simp only [Bool.false_eq_true, if_false]
      rw [Nat.div_eq_of_lt (by omega)]; rfl
    · simp only [if_true]
      rw [Nat.add_div_left _ (by omega), Nat.div_eq_of_lt (by omega)]; rfl
  unfold Ieee.Format.read rv
  simp only [e1, e2]
  split
  · exact ⟨_, _, rfl, Int.le_refl _, by simp⟩
  · refine ⟨_, _, rfl, by omega, ?_⟩
    congr 2; omega

theorem IsF.read {x : Nat} {z : Int} (h : IsF f x z) : ∃ s m p, f.read x = .number s m p ∧ f.leastPlace ≤ p ∧ z = sgn s (m * 2 ^ (p - f.leastPlace).toNat) := by
  obtain ⟨s, r, rfl, hr, rfl⟩ := h
  obtain ⟨m, p, e, hp, hm⟩ := read_word f s r hr
  exact ⟨s, m, p, e, hp, by rw [hm]⟩

theorem compare_mul (a b : Int) (c : Nat) (hc : 0 < c) : compare (a * c) (b * c) = compare a b := by
  have h1 : (a * c < b * c) ↔ a < b := Int.mul_lt_mul_right (by omega)
  have h2 : (a * c = b * c) ↔ a = b := ⟨fun h => Int.eq_of_mul_eq_mul_right (by omega) h, fun h => by rw [h]⟩
  simp only [compare, compareOfLessAndEq, h1, h2]

theorem order_isF {x y : Nat} {z u : Int} (hx : IsF f x z) (hy : IsF f y u) : f.order x y = some (compare z u) := by
  obtain ⟨s, m, p, e, hp, rfl⟩ := hx.read
  obtain ⟨t, n, q, e', hq, rfl⟩ := hy.read
  unfold Ieee.Format.order
  rw [e, e']
  simp only [Ieee.Datum.order, signed_sgn]
  have k : ∀ i : Int, min p q ≤ i → 2 ^ (i - f.leastPlace).toNat = 2 ^ (i - min p q).toNat * 2 ^ (min p q - f.leastPlace).toNat := fun i hi => by
    rw [← Nat.pow_add]; congr 1; omega
  rw [k p (by omega), k q (by omega), ← Nat.mul_assoc, ← Nat.mul_assoc, sgn_mul s (m * _), sgn_mul t (n * _), compare_mul _ _ _ (Nat.two_pow_pos _)]

theorem rr_finite {a t b : Nat} (ha : a < 2 * f.binade) (hm : a * 2 ^ t < rv f f.infRung) : rr f (a * 2 ^ t * 2 ^ b) b < f.infRung := by
  have := rr_exact f a t b ha
  rcases Nat.lt_or_ge (rr f (a * 2 ^ t * 2 ^ b) b) f.infRung with h | h
  · exact h
  · have := (rv_le_iff f).2 h; omega

/-- a number written down where it is one of the format -/
theorem nearest_exact (s : Bool) (mag : Nat) (p : Int) (z b : Nat) (hb : 0 ≤ p - f.leastPlace + b) (hz : mag * 2 ^ (p - f.leastPlace + b).toNat = z * 2 ^ b) (hr : Rep f z) :
    IsF f (f.nearest s mag p) (sgn s z) := by
  obtain ⟨⟨a, t, e, ha⟩, hm⟩ := hr
  rw [Int.natAbs_natCast] at e hm
  rw [nearest_rr f s mag b p hb, hz, e]
  have hfin := rr_finite f (b := b) ha (by rw [← e]; exact hm)
  rw [Nat.min_eq_left (Nat.le_of_lt hfin)]
  exact ⟨s, _, rfl, hfin, by rw [rr_exact f a t b ha]⟩

theorem Rep.neg {z : Int} (h : Rep f z) : Rep f (-z) := by unfold Rep at *; rwa [Int.natAbs_neg]
theorem Rep.abs {z : Int} (h : Rep f z) : Rep f (z.natAbs : Int) := by unfold Rep at *; rwa [Int.natAbs_natCast]

theorem sum_exact {d e : Ieee.Datum} {s t : Bool} {m n : Nat} {p q : Int} (hd : d = .number s m p) (he : e = .number t n q) (hp : f.leastPlace ≤ p) (hq : f.leastPlace ≤ q)
    (hr : Rep f (sgn s (m * 2 ^ (p - f.leastPlace).toNat) + sgn t (n * 2 ^ (q - f.leastPlace).toNat))) :
    ∃ r, (d.sum e).map f.write = some r ∧ IsF f r (sgn s (m * 2 ^ (p - f.leastPlace).toNat) + sgn t (n * 2 ^ (q - f.leastPlace).toNat)) := by
  subst hd; subst he
  simp only [Ieee.Datum.sum, signed_sgn]
  have k : ∀ i : Int, min p q ≤ i → 2 ^ (i - f.leastPlace).toNat = 2 ^ (i - min p q).toNat * 2 ^ (min p q - f.leastPlace).toNat := fun i hi => by
    rw [← Nat.pow_add]; congr 1; omega
  rw [k p (by omega), k q (by omega), ← Nat.mul_assoc, ← Nat.mul_assoc, sgn_mul s (m * _), sgn_mul t (n * _), ← Int.add_mul] at hr ⊢
  generalize sgn s (m * 2 ^ (p - min p q).toNat) + sgn t (n * 2 ^ (q - min p q).toNat) = total at *
  refine ⟨_, rfl, ?_⟩
  have hw : ∀ sg mg pl, f.write (.number sg mg pl) = f.nearest sg mg pl := fun _ _ _ => rfl
  rw [hw]
  have hc : 0 < 2 ^ (min p q - f.leastPlace).toNat := Nat.two_pow_pos _
  have hmag : (total * ((2 ^ (min p q - f.leastPlace).toNat : Nat) : Int)).natAbs = total.natAbs * 2 ^ (min p q - f.leastPlace).toNat := by
    rw [Int.natAbs_mul, Int.natAbs_natCast]
  have main := nearest_exact f (if total = 0 then s && t else decide (total < 0)) total.natAbs (min p q) (total.natAbs * 2 ^ (min p q - f.leastPlace).toNat) 0 (by omega) (by simp) (by
    have := hr.abs; rwa [hmag] at this)
  rw [sgn_mul] at main
  have hs : sgn (if total = 0 then s && t else decide (total < 0)) total.natAbs = total := by
    unfold sgn
    by_cases h0 : total = 0
    · subst h0; simp
    · rw [if_neg h0]
      by_cases h1 : total < 0
      · rw [if_pos (by simpa using h1)]; omega
      · rw [if_neg (by simpa using h1)]; omega
  rwa [hs] at main

theorem add_exact {x y : Nat} {z u : Int} (hx : IsF f x z) (hy : IsF f y u) (hr : Rep f (z + u)) : ∃ r, f.add x y = some r ∧ IsF f r (z + u) := by
  obtain ⟨s, m, p, e, hp, rfl⟩ := hx.read
  obtain ⟨t, n, q, e', hq, rfl⟩ := hy.read
  exact sum_exact f e e' hp hq hr

theorem sgn_not (t : Bool) (n : Nat) : sgn (!t) n = -sgn t n := by unfold sgn; cases t <;> simp

theorem sub_exact {x y : Nat} {z u : Int} (hx : IsF f x z) (hy : IsF f y u) (hr : Rep f (z - u)) : ∃ r, f.sub x y = some r ∧ IsF f r (z - u) := by
  obtain ⟨s, m, p, e, hp, rfl⟩ := hx.read
  obtain ⟨t, n, q, e', hq, rfl⟩ := hy.read
  have he : (f.read y).opposite = .number (!t) n q := by rw [e']; rfl
  rw [Int.sub_eq_add_neg, ← sgn_not] at *
  exact sum_exact f e he hp hq hr

theorem mul_exact {x y : Nat} {z u v : Int} (hx : IsF f x z) (hy : IsF f y u) (hL : f.leastPlace ≤ 0) (hv : z * u = v * ((2 ^ (-f.leastPlace).toNat : Nat) : Int)) (hr : Rep f v) : ∃ r, f.mul x y = some r ∧ IsF f r v := by
  obtain ⟨s, m, p, e, hp, rfl⟩ := hx.read
  obtain ⟨t, n, q, e', hq, rfl⟩ := hy.read
  unfold Ieee.Format.mul
  rw [e, e']
  refine ⟨_, rfl, ?_⟩
  have hw : ∀ sg mg pl, f.write (.number sg mg pl) = f.nearest sg mg pl := fun _ _ _ => rfl
  rw [hw]
  have habs := congrArg Int.natAbs hv
  rw [Int.natAbs_mul, Int.natAbs_mul, natAbs_sgn, natAbs_sgn, Int.natAbs_natCast] at habs
  have main := nearest_exact f (s ^^ t) (m * n) (p + q) v.natAbs (-f.leastPlace).toNat (by omega) (by
    rw [← habs, show (p + q - f.leastPlace + ((-f.leastPlace).toNat : Int)).toNat = (p - f.leastPlace).toNat + (q - f.leastPlace).toNat from by omega, Nat.pow_add]
    simp only [Nat.mul_assoc, Nat.mul_left_comm]) hr.abs
  have hsg : sgn (s ^^ t) v.natAbs = v := by
    have hc : (0 : Int) < ((2 ^ (-f.leastPlace).toNat : Nat) : Int) := by have := Nat.two_pow_pos (-f.leastPlace).toNat; omega
    have h3 : sgn (s ^^ t) v.natAbs * ((2 ^ (-f.leastPlace).toNat : Nat) : Int) = v * ((2 ^ (-f.leastPlace).toNat : Nat) : Int) := by
      rw [← hv, ← sgn_mul, ← habs]
      unfold sgn
      cases s <;> cases t <;> simp [Int.neg_mul, Int.mul_neg]
    exact Int.eq_of_mul_eq_mul_right (by omega) h3
  rwa [hsg] at main

theorem log2_bounds (n : Nat) (h : n ≠ 0) : 2 ^ n.log2 ≤ n ∧ n < 2 ^ (n.log2 + 1) := ⟨Nat.log2_self_le h, Nat.lt_log2_self⟩

/-- the exact quotient, where it is a number of the format: nothing is left over -/
theorem quot_whole {m n a A C F more : Nat} (hn : n ≠ 0) (ha : a < 2 ^ (F + 1)) (hA : m * 2 ^ A = a * n * 2 ^ C) (hmore : more = F + 2 + n.log2 - m.log2) :
    ∃ k, m * 2 ^ more = k * n ∧ k * 2 ^ A = a * 2 ^ (C + more) := by
  by_cases hm : m = 0
  · subst hm
    have : a = 0 := by
      rcases Nat.eq_zero_or_pos a with h | h
      · exact h
      · have : 0 < a * n * 2 ^ C := Nat.mul_pos (Nat.mul_pos h (by omega)) (Nat.two_pow_pos _)
        rw [← hA] at this; simp at this
    subst this
    exact ⟨0, by simp, by simp⟩
  · obtain ⟨m1, m2⟩ := log2_bounds m hm
    obtain ⟨n1, n2⟩ := log2_bounds n hn
    have hlt : m.log2 + A < F + 1 + (n.log2 + 1) + C := by
      rcases Nat.lt_or_ge (m.log2 + A) (F + 1 + (n.log2 + 1) + C) with h | h
      · exact h
      · exfalso
        have e1 : 2 ^ (m.log2 + A) ≤ m * 2 ^ A := by rw [Nat.pow_add]; exact Nat.mul_le_mul_right _ m1
        have e2 : a * n * 2 ^ C < 2 ^ (F + 1) * 2 ^ (n.log2 + 1) * 2 ^ C := by
          refine Nat.mul_lt_mul_of_pos_right ?_ (Nat.two_pow_pos _)
          exact Nat.mul_lt_mul'' ha n2
        have e3 : 2 ^ (F + 1) * 2 ^ (n.log2 + 1) * 2 ^ C = 2 ^ (F + 1 + (n.log2 + 1) + C) := by rw [← Nat.pow_add, ← Nat.pow_add]
        have e4 : 2 ^ (F + 1 + (n.log2 + 1) + C) ≤ 2 ^ (m.log2 + A) := Nat.pow_le_pow_right (by decide) h
        omega
    have hle : A ≤ C + more := by omega
    refine ⟨a * 2 ^ (C + more - A), ?_, ?_⟩
    · have h2 : m * 2 ^ more * 2 ^ A = a * 2 ^ (C + more - A) * n * 2 ^ A := by
        have : 2 ^ (C + more) = 2 ^ (C + more - A) * 2 ^ A := by rw [← Nat.pow_add]; congr 1; omega
        calc m * 2 ^ more * 2 ^ A = m * 2 ^ A * 2 ^ more := Nat.mul_right_comm ..
          _ = a * n * (2 ^ C * 2 ^ more) := by rw [hA, Nat.mul_assoc]
          _ = a * n * (2 ^ (C + more - A) * 2 ^ A) := by rw [← Nat.pow_add, this]
          _ = _ := by simp only [Nat.mul_assoc, Nat.mul_left_comm n]
      exact Nat.eq_of_mul_eq_mul_right (Nat.two_pow_pos A) h2
    · rw [Nat.mul_assoc, ← Nat.pow_add]; congr 2; omega

theorem div_exact {x y : Nat} {z u v : Int} (hx : IsF f x z) (hy : IsF f y u) (hL : f.leastPlace ≤ 0) (hu : u ≠ 0) (hv : v * u = z * ((2 ^ (-f.leastPlace).toNat : Nat) : Int)) (hr : Rep f v) : ∃ r, f.div x y = some r ∧ IsF f r v := by
  obtain ⟨s, m, p, e, hp, rfl⟩ := hx.read
  obtain ⟨t, n, q, e', hq, rfl⟩ := hy.read
  have hn : n ≠ 0 := by rintro rfl; exact hu (by unfold sgn; simp)
  unfold Ieee.Format.div
  rw [e, e']
  simp only [Ieee.Datum.quotient, if_neg hn, Option.map_some]
  refine ⟨_, rfl, ?_⟩
  have hw : ∀ sg mg pl, f.write (.number sg mg pl) = f.nearest sg mg pl := fun _ _ _ => rfl
  rw [hw]
  have habs := congrArg Int.natAbs hv
  rw [Int.natAbs_mul, Int.natAbs_mul, natAbs_sgn, natAbs_sgn, Int.natAbs_natCast] at habs
  obtain ⟨⟨a, c, ea, ha⟩, hm⟩ := hr
  have hA : m * 2 ^ ((p - f.leastPlace).toNat + (-f.leastPlace).toNat) = a * n * 2 ^ (c + (q - f.leastPlace).toNat) := by
    rw [Nat.pow_add, Nat.pow_add, ← Nat.mul_assoc, ← habs, ea]
    simp only [Nat.mul_assoc, Nat.mul_left_comm n]
  have ha' : a < 2 ^ (f.fractionBits + 1) := by rw [Nat.pow_succ, Nat.mul_comm]; exact ha
  obtain ⟨k, k1, k2⟩ := quot_whole hn ha' hA rfl
  generalize hmore : f.fractionBits + 2 + n.log2 - m.log2 = more at *
  rw [Nat.shiftLeft_eq, k1, Nat.mul_div_cancel _ (by omega), Nat.mul_mod_left]
  simp only [bne_self_eq_false, Bool.toNat_false, Nat.add_zero]
  have main := nearest_exact f (s ^^ t) (2 * k) (p - q - more - 1) v.natAbs (more + 1 + (q - f.leastPlace).toNat) (by omega) (by
    have hx1 : (p - q - more - 1 - f.leastPlace + ((more + 1 + (q - f.leastPlace).toNat : Nat) : Int)).toNat = (p - f.leastPlace).toNat + (-f.leastPlace).toNat := by omega
    rw [hx1, Nat.mul_assoc, k2, ea, Nat.mul_assoc, ← Nat.pow_add, show c + (more + 1 + (q - f.leastPlace).toNat) = (c + (q - f.leastPlace).toNat + more) + 1 from by omega, Nat.pow_succ]
    simp only [Nat.mul_comm, Nat.mul_left_comm]) (Rep.abs f ⟨⟨a, c, ea, ha⟩, hm⟩)
  have hsg : sgn (s ^^ t) v.natAbs = v := by
    have hpos : (0 : Int) < ((n * 2 ^ (q - f.leastPlace).toNat : Nat) : Int) := by
      have := Nat.mul_pos (show 0 < n by omega) (Nat.two_pow_pos (q - f.leastPlace).toNat); omega
    have e1 : sgn s (m * 2 ^ (p - f.leastPlace).toNat) * ((2 ^ (-f.leastPlace).toNat : Nat) : Int) = sgn s (v.natAbs * (n * 2 ^ (q - f.leastPlace).toNat)) := by
      rw [← sgn_mul, ← habs]
    rw [e1] at hv
    refine Int.eq_of_mul_eq_mul_right (Int.ne_of_gt hpos) ?_
    rw [← sgn_mul]
    revert hv
    unfold sgn
    cases s <;> cases t <;> simp [Int.mul_neg] <;> omega
  rwa [hsg] at main
end
end Go.Proofs.Ythojgfnaanckeaa

/- Rounding to nearest, of IEEE formats, in plain numbers: a word's value counted in least places; what 'nearest' gives for a fraction N / 2^b of least places; that it is exact where it can be, and never falls where the number rises. -/
import Derived.Test.YthojgfnaanckeaaFl
namespace Go.Proofs.Ythojgfnaanckeaa
open Go.RowKit

/-! ### n / g, to the nearest, halves to the even one -/
def rne (n g : Nat) : Nat := n / g + if g < 2 * (n % g) ∨ (g = 2 * (n % g) ∧ n / g % 2 = 1) then 1 else 0

theorem rne_mul (k g : Nat) (hg : 0 < g) : rne (k * g) g = k := by
  unfold rne
  rw [Nat.mul_mod_left, Nat.mul_div_cancel _ hg, if_neg (by omega)]; rfl

theorem rne_scale (n g c : Nat) (hc : 0 < c) : rne (n * c) (g * c) = rne n g := by
  unfold rne
  rw [Nat.mul_div_mul_right _ _ hc, Nat.mul_mod_mul_right]
  have e : ∀ x : Nat, 2 * (x * c) = (2 * x) * c := fun x => by rw [Nat.mul_assoc]
  rw [e]
  have h1 : g * c < 2 * (n % g) * c ↔ g < 2 * (n % g) := Nat.mul_lt_mul_right hc
  have h2 : g * c = 2 * (n % g) * c ↔ g = 2 * (n % g) := ⟨fun h => Nat.eq_of_mul_eq_mul_right hc h, fun h => congrArg (· * c) h⟩
  simp only [h1, h2]

theorem rne_le (n g k : Nat) (hg : 0 < g) (h : n ≤ k * g) : rne n g ≤ k := by
  have hd := Nat.div_add_mod n g
  have hm := Nat.mod_lt n hg
  have hq : n / g ≤ k := by
    have := Nat.div_le_div_right (c := g) h
    rwa [Nat.mul_div_cancel _ hg] at this
  rcases Nat.lt_or_eq_of_le hq with h1 | h1
  · unfold rne; split <;> omega
  · have : n % g = 0 := by
      have : g * k = k * g := Nat.mul_comm _ _
      rw [h1] at hd
      omega
    unfold rne
    rw [this, if_neg (by omega)]; omega

theorem le_rne (n g k : Nat) (hg : 0 < g) (h : k * g ≤ n) : k ≤ rne n g := by
  have : k ≤ n / g := by
    have := Nat.div_le_div_right (c := g) h
    rwa [Nat.mul_div_cancel _ hg] at this
  unfold rne; omega

theorem rne_mono (n n' g : Nat) (h : n ≤ n') : rne n g ≤ rne n' g := by
  have hq : n / g ≤ n' / g := Nat.div_le_div_right h
  rcases Nat.lt_or_eq_of_le hq with h1 | h1
  · unfold rne; split <;> omega
  · have d1 := Nat.div_add_mod n g
    have d2 := Nat.div_add_mod n' g
    have hm : n % g ≤ n' % g := by rw [h1] at d1; omega
    unfold rne
    rw [h1]
    split <;> split <;> omega

/-- it is near -/
theorem rne_near (n g : Nat) (hg : 0 < g) : 2 * (rne n g * g) ≤ 2 * n + g ∧ 2 * n ≤ 2 * (rne n g * g) + g := by
  have d1 := Nat.div_add_mod n g
  have hm := Nat.mod_lt n hg
  have e : n / g * g = g * (n / g) := Nat.mul_comm _ _
  unfold rne
  split
  · rw [Nat.add_mul]; omega
  · rw [Nat.add_zero]; omega

theorem cut_rne (neg : Bool) (n drop : Nat) : Ieee.Toward.even.cut neg n drop = rne n (2 ^ drop) := by
  have key : ∀ gap : Nat, (n / gap + ((decide (gap < 2 * (n % gap)) || (gap == 2 * (n % gap) && n / gap % 2 == 1)).toNat)) = rne n gap := by
    intro gap
    unfold rne
    by_cases h1 : gap < 2 * (n % gap)
    · simp [h1]
    · by_cases h2 : gap = 2 * (n % gap) <;> by_cases h3 : n / gap % 2 = 1 <;> simp [h1, h3, beq_iff_eq] <;> first | omega | (simp [h2.symm]; done) | (rw [if_neg (by omega)]; simp; omega) | skip
  unfold Ieee.Toward.cut
  simp only [Nat.one_shiftLeft]
  rcases Nat.le_total drop (n.log2 + 2) with h | h
  · rw [Nat.min_eq_left h]; exact key _
  · rw [Nat.min_eq_right h, key]
    have hlt : n < 2 ^ (n.log2 + 1) := Nat.lt_log2_self
    have e1 : 2 ^ (n.log2 + 2) = 2 * 2 ^ (n.log2 + 1) := by rw [Nat.pow_succ 2 (n.log2 + 1), Nat.mul_comm]
    have e2 : 2 ^ (n.log2 + 2) ≤ 2 ^ drop := Nat.pow_le_pow_right (by decide) h
    have e0 : 2 ^ (n.log2 + 1) = 2 * 2 ^ n.log2 := by rw [Nat.pow_succ, Nat.mul_comm]
    unfold rne
    rw [Nat.div_eq_of_lt (show n < 2 ^ (n.log2 + 2) by omega), Nat.mod_eq_of_lt (show n < 2 ^ (n.log2 + 2) by omega), Nat.div_eq_of_lt (show n < 2 ^ drop by omega), Nat.mod_eq_of_lt (show n < 2 ^ drop by omega), if_neg (by omega), if_neg (by omega)]

/-! ### the value of a rung, in least places -/
section
variable (f : Ieee.Format)
def rv (r : Nat) : Nat := if r < f.binade then r else (f.binade + r % f.binade) * 2 ^ (r / f.binade - 1)
theorem binade_pos : 0 < f.binade := Nat.two_pow_pos _
theorem rv_at (q k : Nat) (hk : k ≤ 2 * f.binade) (h : q = 0 ∨ f.binade ≤ k) : rv f (q * f.binade + k) = k * 2 ^ q := by
  have hb := binade_pos f
  unfold rv
  generalize f.binade = B at *
  by_cases h1 : k < B
  · obtain rfl : q = 0 := by omega
    rw [if_pos (by omega)]; simp
  · by_cases h2 : k < 2 * B
    · have hd : (q * B + k) / B = q + 1 := by
        rw [show q * B + k = (k - B) + B * (q + 1) from by rw [Nat.mul_add, Nat.mul_comm B q]; omega, Nat.add_mul_div_left _ _ hb, Nat.div_eq_of_lt (by omega)]; omega
      have hm : (q * B + k) % B = k - B := by
        rw [show q * B + k = (k - B) + B * (q + 1) from by rw [Nat.mul_add, Nat.mul_comm B q]; omega, Nat.add_mul_mod_self_left, Nat.mod_eq_of_lt (by omega)]
      rw [if_neg (by omega), hd, hm]
      congr 1; omega
    · obtain rfl : k = 2 * B := by omega
      have hd : (q * B + 2 * B) / B = q + 2 := by
        rw [← Nat.add_mul, Nat.mul_div_cancel _ hb]
      have hm : (q * B + 2 * B) % B = 0 := by
        rw [← Nat.add_mul, Nat.mul_mod_left]
      rw [if_neg (by omega), hd, hm, Nat.add_zero, show q + 2 - 1 = q + 1 from rfl, Nat.pow_succ, Nat.mul_comm (2 ^ q) 2, ← Nat.mul_assoc, Nat.mul_comm B 2]

/-- a rung's value rises -/
theorem rv_lt (r : Nat) : rv f r < rv f (r + 1) := by
  have hb := binade_pos f
  have hd := Nat.div_add_mod r f.binade
  have hm := Nat.mod_lt r hb
  by_cases h1 : r < f.binade
  · have e1 := rv_at f 0 r (by omega) (.inl rfl)
    have e2 := rv_at f 0 (r + 1) (by omega) (.inl rfl)
    simp only [Nat.zero_mul, Nat.zero_add, Nat.pow_zero, Nat.mul_one] at e1 e2
    omega
  · have hq : 1 ≤ r / f.binade := (Nat.le_div_iff_mul_le hb).2 (by omega)
    have e0 : f.binade * (r / f.binade) = (r / f.binade - 1) * f.binade + f.binade := by
      rw [Nat.mul_comm f.binade]
      obtain ⟨q, hq'⟩ : ∃ q, r / f.binade = q + 1 := ⟨r / f.binade - 1, by omega⟩
      rw [hq', Nat.add_mul]; simp
    have e1 := rv_at f (r / f.binade - 1) (f.binade + r % f.binade) (by omega) (.inr (by omega))
    have e2 := rv_at f (r / f.binade - 1) (f.binade + r % f.binade + 1) (by omega) (.inr (by omega))
    rw [show (r / f.binade - 1) * f.binade + (f.binade + r % f.binade) = r from by omega] at e1
    rw [show (r / f.binade - 1) * f.binade + (f.binade + r % f.binade + 1) = r + 1 from by omega] at e2
    rw [e1, e2]
    exact Nat.mul_lt_mul_of_pos_right (by omega) (Nat.two_pow_pos _)
theorem rv_strict {r s : Nat} (h : r < s) : rv f r < rv f s := by
  induction s with
  | zero => omega
  | succ s ih =>
    rcases Nat.lt_or_eq_of_le (Nat.le_of_lt_succ h) with h1 | h1
    · exact Nat.lt_trans (ih h1) (rv_lt f s)
    · rw [h1]; exact rv_lt f s
theorem rv_le_iff {r s : Nat} : rv f r ≤ rv f s ↔ r ≤ s := by
  constructor
  · intro h
    rcases Nat.lt_or_ge s r with h1 | h1
    · have := rv_strict f h1; omega
    · exact h1
  · intro h
    rcases Nat.lt_or_eq_of_le h with h1 | h1
    · exact Nat.le_of_lt (rv_strict f h1)
    · rw [h1]; exact Nat.le_refl _
theorem rv_inj {r s : Nat} (h : rv f r = rv f s) : r = s :=
  Nat.le_antisymm ((rv_le_iff f).1 (Nat.le_of_eq h)) ((rv_le_iff f).1 (Nat.le_of_eq h.symm))
theorem rv_zero : rv f 0 = 0 := by
  have := binade_pos f
  unfold rv; rw [if_pos this]

/-! ### rounding a fraction N / 2 ^ b of least places to a rung -/
def rr (N b : Nat) : Nat := if N = 0 then 0 else (N.log2 - b - f.fractionBits) * f.binade + rne N (2 ^ (b + (N.log2 - b - f.fractionBits)))

theorem nearest_rr (neg : Bool) (mag b : Nat) (p : Int) (hp : 0 ≤ p - f.leastPlace + b) :
    f.nearest neg mag p = f.word neg (min (rr f (mag * 2 ^ (p - f.leastPlace + b).toNat) b) f.infRung) := by
  unfold Ieee.Format.nearest rr
  by_cases h0 : mag = 0
  · simp [h0]
  · rw [if_neg h0]
    dsimp only
    obtain ⟨k, hk⟩ : ∃ k : Nat, p - f.leastPlace + b = k := ⟨(p - f.leastPlace + b).toNat, by omega⟩
    have hpos : 0 < mag * 2 ^ k := Nat.mul_pos (by omega) (Nat.two_pow_pos _)
    rw [hk, Int.toNat_natCast, if_neg (by omega)]
    have hlog : (mag * 2 ^ k).log2 = mag.log2 + k := by
      rw [Nat.log2_eq_iff (by omega)]
      have h1 : 2 ^ mag.log2 ≤ mag := Nat.log2_self_le h0
      have h2 : mag < 2 ^ (mag.log2 + 1) := Nat.lt_log2_self
      constructor
      · rw [Nat.pow_add]; exact Nat.mul_le_mul_right _ h1
      · rw [show mag.log2 + k + 1 = (mag.log2 + 1) + k from by omega, Nat.pow_add 2 (mag.log2 + 1)]; exact Nat.mul_lt_mul_of_pos_right h2 (Nat.two_pow_pos _)
    rw [hlog]
    generalize hl : max (p + (mag.log2 : Int) - (f.fractionBits : Int)) f.leastPlace = last
    have hq : (last - f.leastPlace).toNat = mag.log2 + k - b - f.fractionBits := by omega
    rw [hq, cut_rne, Nat.shiftLeft_eq]
    congr 3
    generalize hQ : mag.log2 + k - b - f.fractionBits = q at *
    have hb : ∃ c, 2 ^ k = 2 ^ (p - last).toNat * 2 ^ c ∧ 2 ^ (b + q) = 2 ^ (last - p).toNat * 2 ^ c := by
      refine ⟨min k (b + q), ?_, ?_⟩
      · rw [← Nat.pow_add]; congr 1; omega
      · rw [← Nat.pow_add]; congr 1; omega
    obtain ⟨c, e1, e2⟩ := hb
    rw [e1, e2, ← Nat.mul_assoc, rne_scale _ _ _ (Nat.two_pow_pos _)]

/-- what is kept has no more digits than the format has (one more where all were ones) -/
theorem rr_kept (N b : Nat) (h0 : N ≠ 0) : rne N (2 ^ (b + (N.log2 - b - f.fractionBits))) ≤ 2 * f.binade ∧ (N.log2 - b - f.fractionBits = 0 ∨ f.binade ≤ rne N (2 ^ (b + (N.log2 - b - f.fractionBits)))) := by
  have h1 : 2 ^ N.log2 ≤ N := Nat.log2_self_le h0
  have h2 : N < 2 ^ (N.log2 + 1) := Nat.lt_log2_self
  constructor
  · refine rne_le _ _ _ (Nat.two_pow_pos _) ?_
    have : N < 2 ^ (f.fractionBits + 1 + (b + (N.log2 - b - f.fractionBits))) := Nat.lt_of_lt_of_le h2 (Nat.pow_le_pow_right (by decide) (by omega))
    rw [Nat.pow_add, Nat.pow_succ] at this
    unfold Ieee.Format.binade
    rw [Nat.mul_comm 2]; omega
  · by_cases h : N.log2 - b - f.fractionBits = 0
    · exact .inl h
    · refine .inr (le_rne _ _ _ (Nat.two_pow_pos _) ?_)
      unfold Ieee.Format.binade
      rw [← Nat.pow_add, show f.fractionBits + (b + (N.log2 - b - f.fractionBits)) = N.log2 from by omega]
      exact h1

theorem rv_rr (N b : Nat) (h0 : N ≠ 0) : rv f (rr f N b) = rne N (2 ^ (b + (N.log2 - b - f.fractionBits))) * 2 ^ (N.log2 - b - f.fractionBits) := by
  unfold rr
  rw [if_neg h0]
  obtain ⟨k1, k2⟩ := rr_kept f N b h0
  exact rv_at f _ _ k1 k2

/-- WHERE IT CAN BE, IT IS EXACT. -/
theorem rr_exact (a t b : Nat) (ha : a < 2 * f.binade) : rv f (rr f (a * 2 ^ t * 2 ^ b) b) = a * 2 ^ t := by
  by_cases h0 : a = 0
  · subst h0; simp [rr, rv_zero]
  · have hpos : 0 < a * 2 ^ t * 2 ^ b := Nat.mul_pos (Nat.mul_pos (by omega) (Nat.two_pow_pos _)) (Nat.two_pow_pos _)
    rw [rv_rr f _ _ (by omega)]
    have hN : 2 ^ ((a * 2 ^ t * 2 ^ b).log2) ≤ a * 2 ^ t * 2 ^ b := Nat.log2_self_le (by omega)
    generalize hL : (a * 2 ^ t * 2 ^ b).log2 = l at *
    have hlt : l - b - f.fractionBits ≤ t := by
      rcases Nat.lt_or_ge t (l - b - f.fractionBits) with h | h
      · exfalso
        have h3 : a * 2 ^ t * 2 ^ b < 2 * f.binade * 2 ^ t * 2 ^ b := Nat.mul_lt_mul_of_pos_right (Nat.mul_lt_mul_of_pos_right ha (Nat.two_pow_pos _)) (Nat.two_pow_pos _)
        have h4 : 2 * f.binade * 2 ^ t * 2 ^ b = 2 ^ (f.fractionBits + 1 + t + b) := by
          unfold Ieee.Format.binade
          rw [Nat.pow_add, Nat.pow_add, Nat.pow_succ, Nat.mul_comm 2 (2 ^ f.fractionBits)]
        have h5 : 2 ^ (f.fractionBits + 1 + t + b) ≤ 2 ^ l := Nat.pow_le_pow_right (by decide) (by omega)
        omega
      · exact h
    generalize l - b - f.fractionBits = q at *
    obtain ⟨u, rfl⟩ : ∃ u, t = q + u := ⟨t - q, by omega⟩
    have e : a * 2 ^ (q + u) * 2 ^ b = (a * 2 ^ u) * 2 ^ (b + q) := by
      rw [Nat.pow_add, Nat.pow_add, Nat.mul_comm (2 ^ q), Nat.mul_assoc, Nat.mul_assoc, Nat.mul_assoc, Nat.mul_comm (2 ^ q)]
    rw [e, rne_mul _ _ (Nat.two_pow_pos _), Nat.mul_assoc, ← Nat.pow_add, Nat.add_comm u]
theorem rr_mono (N N' b : Nat) (h : N ≤ N') : rr f N b ≤ rr f N' b := by
  by_cases h0 : N = 0
  · subst h0; simp [rr]
  · have h0' : N' ≠ 0 := by omega
    obtain ⟨k1, k2⟩ := rr_kept f N b h0
    obtain ⟨k3, k4⟩ := rr_kept f N' b h0'
    have hl : N.log2 ≤ N'.log2 := by
      rw [Nat.le_log2 h0']
      exact Nat.le_trans (Nat.log2_self_le h0) h
    unfold rr
    rw [if_neg h0, if_neg h0']
    have hq : N.log2 - b - f.fractionBits ≤ N'.log2 - b - f.fractionBits := by omega
    generalize N.log2 - b - f.fractionBits = q at *
    generalize N'.log2 - b - f.fractionBits = q' at *
    rcases Nat.lt_or_eq_of_le hq with h1 | h1
    · have hb := binade_pos f
      have : (q + 1) * f.binade ≤ q' * f.binade := Nat.mul_le_mul_right _ h1
      rw [Nat.add_mul, Nat.one_mul] at this
      omega
    · subst h1
      have := rne_mono N N' (2 ^ (b + q)) h
      omega
end
end Go.Proofs.Ythojgfnaanckeaa

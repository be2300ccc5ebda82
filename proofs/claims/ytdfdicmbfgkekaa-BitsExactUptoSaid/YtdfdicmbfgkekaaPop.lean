/- How many bits a word has, by the sum in fields; the lowest bit: plain. -/
import Derived.Test.YtdfdicmbfgkekaaBs
namespace Go.Bs

/-! ### bytes -/
def val : List Nat → Nat
  | [] => 0
  | b :: bs => 256 * val bs + b
def rep (m : Nat) : Nat → Nat
  | 0 => 0
  | n + 1 => 256 * rep m n + m
theorem land_join (a c b d : Nat) (hb : b < 256) (hd : d < 256) : (256 * a + b) &&& (256 * c + d) = 256 * (a &&& c) + (b &&& d) := by
  have hbd : b &&& d < 2 ^ 8 := Nat.lt_of_le_of_lt Nat.and_le_left hb
  refine Nat.eq_of_testBit_eq fun j => ?_
  have e1 : 256 * a + b = 2 ^ 8 * a + b := by omega
  have e2 : 256 * c + d = 2 ^ 8 * c + d := by omega
  have e3 : 256 * (a &&& c) + (b &&& d) = 2 ^ 8 * (a &&& c) + (b &&& d) := by omega
  rw [Nat.testBit_and, e1, e2, e3, Nat.testBit_two_pow_mul_add _ hb, Nat.testBit_two_pow_mul_add _ hd, Nat.testBit_two_pow_mul_add _ hbd]
  split
  · rw [Nat.testBit_and]
  · rw [Nat.testBit_and]
def f1 (b : Nat) : Nat := (b / 2 &&& 85) + (b &&& 85)
def f2 (b : Nat) : Nat := (b / 4 &&& 51) + (b &&& 51)
def f4 (b : Nat) : Nat := b / 16 + b % 16
theorem b1 : ∀ b : Fin 256, ∀ k : Fin 2, (b.val / 2 + 128 * k.val) &&& 85 = b.val / 2 &&& 85 := by decide +kernel
theorem b2 : ∀ b : Fin 256, ∀ k : Fin 4, (b.val / 4 + 64 * k.val) &&& 51 = b.val / 4 &&& 51 := by decide +kernel
theorem b1' (b k : Nat) (hb : b < 256) (hk : k < 2) : (b / 2 + 128 * k) &&& 85 = b / 2 &&& 85 := b1 ⟨b, hb⟩ ⟨k, hk⟩
theorem b2' (b k : Nat) (hb : b < 256) (hk : k < 4) : (b / 4 + 64 * k) &&& 51 = b / 4 &&& 51 := b2 ⟨b, hb⟩ ⟨k, hk⟩
theorem b1_lt : ∀ b : Fin 256, f1 b.val < 256 := by decide +kernel
theorem b2_le : ∀ b : Fin 256, f2 (f1 b.val) < 256 ∧ f2 (f1 b.val) / 16 ≤ 4 ∧ f2 (f1 b.val) % 16 ≤ 4 := by decide +kernel
theorem b4_cnt : ∀ b : Fin 256, f4 (f2 (f1 b.val)) = cnt b.val.testBit 8 := by decide +kernel
theorem val_lt : ∀ bs : List Nat, (∀ b ∈ bs, b < 256) → val bs < 256 ^ bs.length
  | [], _ => by simp [val]
  | b :: bs, h => by
    have := val_lt bs fun x hx => h x (List.mem_cons_of_mem _ hx)
    have hb := h b List.mem_cons_self
    simp only [val, List.length_cons, Nat.pow_succ]
    omega
theorem sum1 : ∀ bs : List Nat, (∀ b ∈ bs, b < 256) → (val bs / 2 &&& rep 85 bs.length) + (val bs &&& rep 85 bs.length) = val (bs.map f1)
  | [], _ => rfl
  | b :: bs, h => by
    have ih := sum1 bs fun x hx => h x (List.mem_cons_of_mem _ hx)
    have hb := h b List.mem_cons_self
    have e : (256 * val bs + b) / 2 = 256 * (val bs / 2) + (b / 2 + 128 * (val bs % 2)) := by omega
    simp only [val, List.length_cons, rep, List.map_cons]
    rw [e, land_join _ _ _ _ (by omega) (by decide), land_join _ _ _ _ hb (by decide), b1' b (val bs % 2) hb (by omega)]
    have hf : f1 b = (b / 2 &&& 85) + (b &&& 85) := rfl
    omega
theorem sum2 : ∀ bs : List Nat, (∀ b ∈ bs, b < 256) → (val bs / 4 &&& rep 51 bs.length) + (val bs &&& rep 51 bs.length) = val (bs.map f2)
  | [], _ => rfl
  | b :: bs, h => by
    have ih := sum2 bs fun x hx => h x (List.mem_cons_of_mem _ hx)
    have hb := h b List.mem_cons_self
    have e : (256 * val bs + b) / 4 = 256 * (val bs / 4) + (b / 4 + 64 * (val bs % 4)) := by omega
    simp only [val, List.length_cons, rep, List.map_cons]
    rw [e, land_join _ _ _ _ (by omega) (by decide), land_join _ _ _ _ hb (by decide), b2' b (val bs % 4) hb (by omega)]
    have hf : f2 b = (b / 4 &&& 51) + (b &&& 51) := rfl
    omega
theorem low4 : ∀ bs : List Nat, (∀ b ∈ bs, b < 256 ∧ b / 16 ≤ 4 ∧ b % 16 ≤ 4) → val bs % 16 ≤ 4
  | [], _ => by simp [val]
  | b :: bs, h => by have := (h b List.mem_cons_self).2.2; simp only [val]; omega
theorem sum4 : ∀ bs : List Nat, (∀ b ∈ bs, b < 256 ∧ b / 16 ≤ 4 ∧ b % 16 ≤ 4) → (val bs / 16 + val bs) &&& rep 15 bs.length = val (bs.map f4)
  | [], _ => rfl
  | b :: bs, h => by
    have ih := sum4 bs fun x hx => h x (List.mem_cons_of_mem _ hx)
    have hl := low4 bs fun x hx => h x (List.mem_cons_of_mem _ hx)
    obtain ⟨hb, h1, h2⟩ := h b List.mem_cons_self
    have e : (256 * val bs + b) / 16 + (256 * val bs + b) = 256 * (val bs / 16 + val bs) + (b / 16 + b + 16 * (val bs % 16)) := by omega
    simp only [val, List.length_cons, rep, List.map_cons]
    rw [e, land_join _ _ _ _ (by omega) (by decide), ih, show (15 : Nat) = 2 ^ 4 - 1 from rfl, Nat.and_two_pow_sub_one_eq_mod]
    unfold f4
    omega
/-- the bits of a number by its bytes -/
def tot (f : Nat → Nat) : List Nat → Nat
  | [] => 0
  | b :: bs => f b + tot f bs
theorem cnt_val : ∀ bs : List Nat, (∀ b ∈ bs, b < 256) → cnt (val bs).testBit (8 * bs.length) = tot (fun b => cnt b.testBit 8) bs
  | [], _ => rfl
  | b :: bs, h => by
    have ih := cnt_val bs fun x hx => h x (List.mem_cons_of_mem _ hx)
    have hb := h b List.mem_cons_self
    have e : 256 * val bs + b = 2 ^ 8 * val bs + b := by omega
    simp only [val, List.length_cons, tot]
    rw [show 8 * (bs.length + 1) = 8 + 8 * bs.length from by omega, cnt_add, ← ih, e]
    congr 1
    · exact cnt_congr 8 fun j hj => by rw [Nat.testBit_two_pow_mul_add _ hb, if_pos hj]
    · exact cnt_congr _ fun j _ => by rw [Nat.testBit_two_pow_mul_add _ hb, if_neg (by omega), show 8 + j - 8 = j from by omega]
def bytes (x : Nat) : Nat → List Nat
  | 0 => []
  | n + 1 => x % 256 :: bytes (x / 256) n
theorem bytes_len (n : Nat) : ∀ x, (bytes x n).length = n := by
  induction n with
  | zero => exact fun _ => rfl
  | succ n ih => exact fun x => by simp [bytes, ih]
theorem bytes_lt (n : Nat) : ∀ x, ∀ b ∈ bytes x n, b < 256 := by
  induction n with
  | zero => exact fun _ _ h => by cases h
  | succ n ih =>
    intro x b hb
    rcases List.mem_cons.1 hb with rfl | hb
    · exact Nat.mod_lt _ (by decide)
    · exact ih _ b hb
theorem bytes_val (n : Nat) : ∀ x, x < 256 ^ n → val (bytes x n) = x := by
  induction n with
  | zero => intro x hx; simp at hx; subst hx; rfl
  | succ n ih =>
    intro x hx
    have : x / 256 < 256 ^ n := by rw [Nat.pow_succ] at hx; exact Nat.div_lt_of_lt_mul (by omega)
    show 256 * val (bytes (x / 256) n) + x % 256 = x
    rw [ih _ this]; omega
/-- the sum in fields of a word, up to the bytes -/
theorem fields (x : Nat) (hx : x < 18446744073709551616) (y z u : Nat)
    (h1 : y = (x / 2 &&& 6148914691236517205) + (x &&& 6148914691236517205))
    (h2 : z = (y / 4 &&& 3689348814741910323) + (y &&& 3689348814741910323))
    (h3 : u = (z / 16 + z) &&& 1085102592571150095) :
    ∃ c0 c1 c2 c3 c4 c5 c6 c7 : Nat, c0 ≤ 8 ∧ c1 ≤ 8 ∧ c2 ≤ 8 ∧ c3 ≤ 8 ∧ c4 ≤ 8 ∧ c5 ≤ 8 ∧ c6 ≤ 8 ∧ c7 ≤ 8 ∧
      u = c0 + 256 * c1 + 65536 * c2 + 16777216 * c3 + 4294967296 * c4 + 1099511627776 * c5 + 281474976710656 * c6 + 72057594037927936 * c7 ∧
      cnt x.testBit 64 = c0 + c1 + c2 + c3 + c4 + c5 + c6 + c7 ∧ y < 18446744073709551616 ∧ z < 9223372036854775808 := by
  have hl := bytes_len 8 x
  have hb := bytes_lt 8 x
  have hv := bytes_val 8 x hx
  have s1 := sum1 (bytes x 8) hb
  rw [hl, hv, show rep 85 8 = 6148914691236517205 from rfl, ← h1] at s1
  have hb1 : ∀ b ∈ (bytes x 8).map f1, b < 256 := by
    intro b hm
    obtain ⟨a, ha, rfl⟩ := List.mem_map.1 hm
    exact b1_lt ⟨a, hb a ha⟩
  have s2 := sum2 _ hb1
  rw [List.length_map, hl, ← s1, show rep 51 8 = 3689348814741910323 from rfl, ← h2] at s2
  have hb2 : ∀ b ∈ ((bytes x 8).map f1).map f2, b < 256 ∧ b / 16 ≤ 4 ∧ b % 16 ≤ 4 := by
    intro b hm
    obtain ⟨a', ha', rfl⟩ := List.mem_map.1 hm
    obtain ⟨a, ha, rfl⟩ := List.mem_map.1 ha'
    exact b2_le ⟨a, hb a ha⟩
  have s4 := sum4 _ hb2
  rw [List.length_map, List.length_map, hl, ← s2, show rep 15 8 = 1085102592571150095 from rfl, ← h3] at s4
  have sc := cnt_val _ hb
  rw [hl, hv] at sc
  have l1 := val_lt _ hb1
  rw [List.length_map, hl, ← s1] at l1
  have ez : z < 9223372036854775808 := by
    rw [s2]
    simp only [bytes, List.map_cons, List.map_nil, val] at hb2 ⊢
    have q := (hb2 _ (by simp; right; right; right; right; right; right; right; rfl)).2
    have q0 := fun b hm => (hb2 b hm).1
    simp at q0
    omega
  have key : ∀ b : Nat, b < 256 → f4 (f2 (f1 b)) = cnt b.testBit 8 := fun b hb => b4_cnt ⟨b, hb⟩
  have k8 : ∀ b : Nat, cnt b.testBit 8 ≤ 8 := fun b => cnt_le _ 8
  simp only [bytes, List.map_cons, List.map_nil, val, tot] at s4 sc
  refine ⟨_, _, _, _, _, _, _, _, k8 (x % 256), k8 (x / 256 % 256), k8 (x / 256 / 256 % 256), k8 (x / 256 / 256 / 256 % 256), k8 (x / 256 / 256 / 256 / 256 % 256), k8 (x / 256 / 256 / 256 / 256 / 256 % 256),
    k8 (x / 256 / 256 / 256 / 256 / 256 / 256 % 256), k8 (x / 256 / 256 / 256 / 256 / 256 / 256 / 256 % 256), ?_, ?_, l1, ez⟩
  · rw [s4]
    simp only [key _ (Nat.mod_lt _ (show 0 < 256 by decide))]
    omega
  · rw [show 8 * 8 = 64 from rfl] at sc
    rw [sc]; omega
theorem d1 (a q : Nat) (h : a ≤ 8) : (a + 256 * q) / 256 = q := by omega
theorem d2 (a b q : Nat) (h : a ≤ 16) (k : b ≤ 16) : (a + 256 * b + 65536 * q) / 65536 = q := by omega
theorem d3 (a b c d q : Nat) (h : a ≤ 32) (k : b ≤ 32) (l : c ≤ 32) (m : d ≤ 32) : (a + 256 * b + 65536 * c + 16777216 * d + 4294967296 * q) / 4294967296 = q := by omega
theorem d4 (a q : Nat) (h : a ≤ 64) : (a + 256 * q) % 128 = a := by omega
theorem fold_fields (c0 c1 c2 c3 c4 c5 c6 c7 u v w t : Nat) (h0 : c0 ≤ 8) (h1 : c1 ≤ 8) (h2 : c2 ≤ 8) (h3 : c3 ≤ 8) (h4 : c4 ≤ 8) (h5 : c5 ≤ 8) (h6 : c6 ≤ 8) (h7 : c7 ≤ 8)
    (hu : u = c0 + 256 * c1 + 65536 * c2 + 16777216 * c3 + 4294967296 * c4 + 1099511627776 * c5 + 281474976710656 * c6 + 72057594037927936 * c7)
    (hv : v = u + u / 256) (hw : w = v + v / 65536) (ht : t = w + w / 4294967296) : t % 128 = c0 + c1 + c2 + c3 + c4 + c5 + c6 + c7 ∧ t < 9223372036854775808 ∧ v < 9223372036854775808 ∧ w < 9223372036854775808 := by
  have e0 : u = c0 + 256 * (c1 + 256 * c2 + 65536 * c3 + 16777216 * c4 + 4294967296 * c5 + 1099511627776 * c6 + 281474976710656 * c7) := by rw [hu]; clear hu hv hw ht; omega
  rw [e0, d1 _ _ h0] at hv
  have e2 : v = (c0 + c1) + 256 * (c1 + c2) + 65536 * ((c2 + c3) + 256 * (c3 + c4) + 65536 * (c4 + c5) + 16777216 * (c5 + c6) + 4294967296 * (c6 + c7) + 1099511627776 * c7) := by rw [hv]; clear hu hv hw ht e0; omega
  rw [e2, d2 _ _ _ (by clear hu hv hw ht e0 e2; omega) (by clear hu hv hw ht e0 e2; omega)] at hw
  have e4 : w = (c0 + c1 + c2 + c3) + 256 * (c1 + c2 + c3 + c4) + 65536 * (c2 + c3 + c4 + c5) + 16777216 * (c3 + c4 + c5 + c6) + 4294967296 * ((c4 + c5 + c6 + c7) + 256 * (c5 + c6 + c7) + 65536 * (c6 + c7) + 16777216 * c7) := by rw [hw]; clear hu hv hw ht e0 e2; omega
  rw [e4, d3 _ _ _ _ _ (by clear hu hv hw ht e0 e2 e4; omega) (by clear hu hv hw ht e0 e2 e4; omega) (by clear hu hv hw ht e0 e2 e4; omega) (by clear hu hv hw ht e0 e2 e4; omega)] at ht
  have e6 : t = (c0 + c1 + c2 + c3 + c4 + c5 + c6 + c7) + 256 * ((c1 + c2 + c3 + c4 + c5 + c6 + c7) + 256 * (c2 + c3 + c4 + c5 + c6 + c7) + 65536 * (c3 + c4 + c5 + c6 + c7) + 16777216 * (c4 + c5 + c6 + c7) + 4294967296 * (c5 + c6 + c7) + 1099511627776 * (c6 + c7) + 281474976710656 * c7) := by rw [ht]; clear hu hv hw ht e0 e2 e4; omega
  refine ⟨?_, ?_, ?_, ?_⟩
  · rw [e6]; exact d4 _ _ (by clear hu hv hw ht e0 e2 e4 e6; omega)
  · clear hu hv hw ht e0 e2 e4; omega
  · clear hu hv hw ht e0 e4 e6; omega
  · clear hu hv hw ht e0 e2 e6; omega

/-! ### the lowest bit -/
/-- the lowest bit of a number that is not 0 -/
theorem lowest : ∀ (n x : Nat), x ≠ 0 → x < 2 ^ n → ∃ t m, t < n ∧ x = 2 ^ t * (2 * m + 1)
  | 0, x, h, hx => by simp at hx; omega
  | n + 1, x, h, hx => by
    by_cases e : x % 2 = 1
    · exact ⟨0, x / 2, by omega, by simp; omega⟩
    · obtain ⟨t, m, ht, hm⟩ := lowest n (x / 2) (by omega) (by rw [Nat.pow_succ] at hx; omega)
      refine ⟨t + 1, m, by omega, ?_⟩
      have e2 : x = 2 * (x / 2) := by omega
      rw [e2, hm, Nat.pow_succ, Nat.mul_comm (2 ^ t) 2, Nat.mul_assoc]
theorem odd_bit (t m j : Nat) : (2 ^ t * (2 * m + 1)).testBit j = (decide (t ≤ j) && (2 * m + 1).testBit (j - t)) := by
  have h := Nat.testBit_two_pow_mul_add (i := t) (2 * m + 1) (b := 0) (Nat.two_pow_pos t) j
  rw [Nat.add_zero] at h
  rw [h]
  by_cases e : j < t
  · rw [if_pos e]; simp; omega
  · rw [if_neg e]
    have : t ≤ j := by omega
    simp [this]
theorem pred_bit (t m j : Nat) : (2 ^ t * (2 * m + 1) - 1).testBit j = if j < t then true else (2 * m).testBit (j - t) := by
  have hp := Nat.two_pow_pos t
  have e : 2 ^ t * (2 * m + 1) - 1 = 2 ^ t * (2 * m) + (2 ^ t - 1) := by rw [Nat.mul_add]; omega
  rw [e, Nat.testBit_two_pow_mul_add _ (by omega)]
  by_cases h : j < t
  · rw [if_pos h, if_pos h, Nat.testBit_two_pow_sub_one]; simp [h]
  · rw [if_neg h, if_neg h]
theorem odd_bits (m d : Nat) : (2 * m + 1).testBit d = if d = 0 then true else (2 * m).testBit d := by
  cases d with
  | zero => simp [Nat.testBit_zero]
  | succ d => simp [Nat.testBit_succ]; congr 1; omega
theorem even_bit0 (m : Nat) : (2 * m).testBit 0 = false := by simp [Nat.testBit_zero]
/-- x & -x -/
theorem and_neg {x t m : Nat} (hx : x < 18446744073709551616) (e : x = 2 ^ t * (2 * m + 1)) : x &&& (18446744073709551616 - x) = 2 ^ t := by
  have h0 : x ≠ 0 := by rw [e]; have := Nat.two_pow_pos t; exact Nat.mul_ne_zero (by omega) (by omega)
  have e1 : 18446744073709551616 - x = 18446744073709551615 - (x - 1) := by omega
  have ht : t < 64 := by
    rcases Nat.lt_or_ge t 64 with h | h
    · exact h
    · have h1 : 2 ^ 64 ≤ 2 ^ t := Nat.pow_le_pow_right (by decide) h
      have h2 : 2 ^ t * 1 ≤ 2 ^ t * (2 * m + 1) := Nat.mul_le_mul_left _ (by omega)
      omega
  refine Nat.eq_of_testBit_eq fun j => ?_
  rw [Nat.testBit_two_pow]
  by_cases hj : j < 64
  · rw [Nat.testBit_and, e1, comp_bit (by omega) hj]
    rw [e, odd_bit, pred_bit]
    by_cases h : j < t
    · have h1 : ¬ t ≤ j := by omega
      have h2 : t ≠ j := by omega
      simp [h1, h2]
    · rw [if_neg h, odd_bits]
      have h1 : t ≤ j := by omega
      by_cases h2 : t = j
      · subst h2; simp
      · rw [if_neg (by omega)]
        simp [h1, h2]
  · rw [high_bit (and_lt hx) (by omega)]
    have : t ≠ j := by omega
    simp [this]
/-- x & (x - 1): the lowest bit is gone -/
theorem and_pred {x t m : Nat} (e : x = 2 ^ t * (2 * m + 1)) (j : Nat) : (x &&& (x - 1)).testBit j = (x.testBit j && !decide (j = t)) := by
  rw [Nat.testBit_and, e, odd_bit, pred_bit]
  by_cases h : j < t
  · have h1 : ¬ t ≤ j := by omega
    simp [h1]
  · rw [if_neg h, odd_bits]
    have h1 : t ≤ j := by omega
    by_cases h2 : j = t
    · subst h2; simp
    · rw [if_neg (by omega)]
      simp [h1, h2]
theorem low_bit {x t m : Nat} (e : x = 2 ^ t * (2 * m + 1)) : x.testBit t = true := by rw [e, odd_bit, Nat.sub_self, odd_bits]; simp
theorem below_low {x t m j : Nat} (e : x = 2 ^ t * (2 * m + 1)) (h : j < t) : x.testBit j = false := by
  rw [e, odd_bit]
  have h1 : ¬ t ≤ j := by omega
  simp [h1]
end Go.Bs

/- Sets of numbers, word by word: plain, no program in sight. -/
namespace Go.Bs

def wsum (f : Nat → Bool) : Nat → Nat
  | 0 => 0
  | n + 1 => wsum f n + (if f n then 2 ^ n else 0)
theorem wsum_lt (f : Nat → Bool) : ∀ n, wsum f n < 2 ^ n
  | 0 => by simp [wsum]
  | n + 1 => by
    have := wsum_lt f n
    have hp : 2 ^ (n + 1) = 2 ^ n + 2 ^ n := by rw [Nat.pow_succ]; omega
    simp only [wsum]
    split <;> omega
theorem wsum_bit (f : Nat → Bool) (j : Nat) : ∀ n, (wsum f n).testBit j = (decide (j < n) && f j)
  | 0 => by simp [wsum]
  | n + 1 => by
    have hl := wsum_lt f n
    have ih := wsum_bit f j n
    have key : (wsum f n + (if f n then 2 ^ n else 0)) = 2 ^ n * (if f n then 1 else 0) + wsum f n := by
      split <;> omega
    simp only [wsum]
    rw [key, Nat.testBit_two_pow_mul_add _ hl]
    by_cases h : j < n
    · rw [if_pos h, ih]
      have : j < n + 1 := by omega
      simp [h, this]
    · rw [if_neg h]
      by_cases hj : j = n
      · subst hj
        cases hf : f j <;> simp
      · have h1 : ¬ j < n + 1 := by omega
        have h2 : ∃ d, j - n = d + 1 := ⟨j - n - 1, by omega⟩
        obtain ⟨d, hd⟩ := h2
        rw [hd]
        cases f n <;> simp [h1, Nat.testBit_succ]
theorem wsum_congr {f g : Nat → Bool} : ∀ n, (∀ j, j < n → f j = g j) → wsum f n = wsum g n
  | 0, _ => rfl
  | n + 1, h => by
    simp only [wsum]
    rw [wsum_congr n fun j hj => h j (by omega), h n (by omega)]

def word (S : Nat → Bool) (k : Nat) : Nat := wsum (fun j => S (64 * k + j)) 64
theorem word_lt (S : Nat → Bool) (k : Nat) : word S k < 18446744073709551616 := wsum_lt _ 64
theorem word_bit (S : Nat → Bool) (k j : Nat) (hj : j < 64) : (word S k).testBit j = S (64 * k + j) := by
  unfold word; rw [wsum_bit]; simp [hj]
theorem high_bit {x j : Nat} (hx : x < 18446744073709551616) (hj : 64 ≤ j) : x.testBit j = false := by
  refine Nat.testBit_lt_two_pow (Nat.lt_of_lt_of_le hx ?_)
  exact Nat.pow_le_pow_right (n := 2) (by decide) hj
theorem word_ext {S : Nat → Bool} {k x : Nat} (hx : x < 18446744073709551616) (h : ∀ j, j < 64 → x.testBit j = S (64 * k + j)) : x = word S k := by
  refine Nat.eq_of_testBit_eq fun j => ?_
  by_cases hj : j < 64
  · rw [h j hj, word_bit S k j hj]
  · rw [high_bit hx (by omega), high_bit (word_lt S k) (by omega)]
theorem word_congr {S T : Nat → Bool} {k : Nat} (h : ∀ j, j < 64 → S (64 * k + j) = T (64 * k + j)) : word S k = word T k := wsum_congr 64 h
theorem word_inj {S T : Nat → Bool} {k : Nat} (h : word S k = word T k) (j : Nat) (hj : j < 64) : S (64 * k + j) = T (64 * k + j) := by
  rw [← word_bit S k j hj, ← word_bit T k j hj, h]

def cup (S T : Nat → Bool) : Nat → Bool := fun i => S i || T i
def cap (S T : Nat → Bool) : Nat → Bool := fun i => S i && T i
def less (S T : Nat → Bool) : Nat → Bool := fun i => S i && !T i
def ins (S : Nat → Bool) (i : Nat) : Nat → Bool := fun j => if j = i then true else S j
def del (S : Nat → Bool) (i : Nat) : Nat → Bool := fun j => if j = i then false else S j
theorem and_lt {x y : Nat} (hx : x < 18446744073709551616) : x &&& y < 18446744073709551616 := Nat.lt_of_le_of_lt Nat.and_le_left hx
theorem or_lt {x y : Nat} (hx : x < 18446744073709551616) (hy : y < 18446744073709551616) : x ||| y < 18446744073709551616 := Nat.or_lt_two_pow (n := 64) hx hy
theorem comp_bit {y j : Nat} (hy : y < 18446744073709551616) (hj : j < 64) : (18446744073709551615 - y).testBit j = !y.testBit j := by
  have := Nat.testBit_two_pow_sub_succ (n := 64) (x := y) hy j
  rw [show 2 ^ 64 - (y + 1) = 18446744073709551615 - y from by omega] at this
  rw [this]; simp [hj]
theorem word_or (S T : Nat → Bool) (k : Nat) : word S k ||| word T k = word (cup S T) k :=
  word_ext (or_lt (word_lt _ _) (word_lt _ _)) fun j hj => by rw [Nat.testBit_or, word_bit _ _ _ hj, word_bit _ _ _ hj]; rfl
theorem word_and (S T : Nat → Bool) (k : Nat) : word S k &&& word T k = word (cap S T) k :=
  word_ext (and_lt (word_lt _ _)) fun j hj => by rw [Nat.testBit_and, word_bit _ _ _ hj, word_bit _ _ _ hj]; rfl
theorem word_andNot (S T : Nat → Bool) (k : Nat) : word S k &&& (18446744073709551615 - word T k) = word (less S T) k :=
  word_ext (and_lt (word_lt _ _)) fun j hj => by rw [Nat.testBit_and, word_bit _ _ _ hj, comp_bit (word_lt _ _) hj, word_bit _ _ _ hj]; rfl
theorem has_word (S : Nat → Bool) (i : Nat) : word S (i / 64) / 2 ^ (i % 64) % 2 = if S i then 1 else 0 := by
  have h := word_bit S (i / 64) (i % 64) (Nat.mod_lt _ (by decide))
  rw [Nat.div_add_mod] at h
  rw [Nat.testBit_eq_decide_div_mod_eq] at h
  cases hs : S i
  · rw [hs] at h
    have h1 := of_decide_eq_false h
    have h2 := Nat.mod_lt (word S (i / 64) / 2 ^ (i % 64)) (show 0 < 2 by decide)
    simp
    omega
  · rw [hs] at h
    exact of_decide_eq_true h
theorem pow_lt {i : Nat} : 2 ^ (i % 64) < 18446744073709551616 :=
  Nat.pow_lt_pow_right (a := 2) (by decide) (Nat.mod_lt _ (by decide))
theorem word_ins (S : Nat → Bool) (i : Nat) : word S (i / 64) ||| 2 ^ (i % 64) = word (ins S i) (i / 64) :=
  word_ext (or_lt (word_lt _ _) pow_lt) fun j hj => by
    rw [Nat.testBit_or, word_bit _ _ _ hj, Nat.testBit_two_pow]
    have hm := Nat.mod_lt i (show 0 < 64 by decide)
    have hd := Nat.div_add_mod i 64
    unfold ins
    by_cases e : i % 64 = j
    · rw [if_pos (by omega)]; simp [e]
    · rw [if_neg (by omega)]; simp [e]
theorem word_del (S : Nat → Bool) (i : Nat) : word S (i / 64) &&& (18446744073709551615 - 2 ^ (i % 64)) = word (del S i) (i / 64) :=
  word_ext (and_lt (word_lt _ _)) fun j hj => by
    rw [Nat.testBit_and, word_bit _ _ _ hj, comp_bit pow_lt hj, Nat.testBit_two_pow]
    have hm := Nat.mod_lt i (show 0 < 64 by decide)
    have hd := Nat.div_add_mod i 64
    unfold del
    by_cases e : i % 64 = j
    · rw [if_pos (by omega)]; simp [e]
    · rw [if_neg (by omega)]; simp [e]
theorem word_ins_ne (S : Nat → Bool) {i k : Nat} (h : k ≠ i / 64) : word (ins S i) k = word S k :=
  word_congr fun j hj => if_neg (by omega)
theorem word_del_ne (S : Nat → Bool) {i k : Nat} (h : k ≠ i / 64) : word (del S i) k = word S k :=
  word_congr fun j hj => if_neg (by omega)
theorem ins_same {S : Nat → Bool} {i : Nat} (h : S i = true) : ins S i = S := by
  funext j; unfold ins; split
  · rename_i e; rw [e, h]
  · rfl
theorem del_same {S : Nat → Bool} {i : Nat} (h : S i = false) : del S i = S := by
  funext j; unfold del; split
  · rename_i e; rw [e, h]
  · rfl

/-! ### counting -/
def cnt (f : Nat → Bool) : Nat → Nat
  | 0 => 0
  | n + 1 => cnt f n + (if f n then 1 else 0)
theorem cnt_le (f : Nat → Bool) : ∀ n, cnt f n ≤ n
  | 0 => Nat.le_refl _
  | n + 1 => by have := cnt_le f n; simp only [cnt]; split <;> omega
theorem cnt_congr {f g : Nat → Bool} : ∀ n, (∀ j, j < n → f j = g j) → cnt f n = cnt g n
  | 0, _ => rfl
  | n + 1, h => by simp only [cnt]; rw [cnt_congr n fun j hj => h j (by omega), h n (by omega)]
theorem cnt_add (f : Nat → Bool) (m : Nat) : ∀ n, cnt f (m + n) = cnt f m + cnt (fun j => f (m + j)) n
  | 0 => rfl
  | n + 1 => by
    show cnt f (m + n) + (if f (m + n) then 1 else 0) = cnt f m + (cnt (fun j => f (m + j)) n + (if f (m + n) then 1 else 0))
    rw [cnt_add f m n, Nat.add_assoc]
theorem cnt_none {f : Nat → Bool} : ∀ n, (∀ j, j < n → f j = false) → cnt f n = 0
  | 0, _ => rfl
  | n + 1, h => by simp only [cnt]; rw [cnt_none n fun j hj => h j (by omega), h n (by omega)]; simp
/-- beyond the room there is nothing -/
theorem cnt_beyond {f : Nat → Bool} {m n : Nat} (h : m ≤ n) (hf : ∀ j, m ≤ j → f j = false) : cnt f n = cnt f m := by
  obtain ⟨d, rfl⟩ : ∃ d, n = m + d := ⟨n - m, by omega⟩
  rw [cnt_add, cnt_none d fun j _ => hf _ (Nat.le_add_right _ _)]; rfl
theorem cnt_mono {f g : Nat → Bool} : ∀ n, (∀ j, j < n → f j = true → g j = true) → cnt f n ≤ cnt g n
  | 0, _ => Nat.le_refl _
  | n + 1, h => by
    have := cnt_mono n fun j hj => h j (by omega)
    have h1 := h n (by omega)
    simp only [cnt]
    cases hf : f n
    · simp; omega
    · rw [h1 hf]; simp; omega
theorem cnt_eq_of {f g : Nat → Bool} : ∀ n, (∀ j, j < n → f j = true → g j = true) → cnt f n = cnt g n → ∀ j, j < n → f j = g j
  | 0, _, _, j, hj => absurd hj (by omega)
  | n + 1, h, he, j, hj => by
    have hm := cnt_mono n fun j hj => h j (by omega)
    have h1 := h n (by omega)
    simp only [cnt] at he
    have hn : f n = g n := by
      cases hf : f n
      · cases hg : g n
        · rfl
        · rw [hf, hg] at he; simp at he; omega
      · rw [h1 hf]
    by_cases e : j = n
    · subst e; exact hn
    · exact cnt_eq_of n (fun j hj => h j (by omega)) (by rw [hn] at he; omega) j (by omega)
theorem cnt_cup_cap (f g : Nat → Bool) : ∀ n, cnt (cup f g) n + cnt (cap f g) n = cnt f n + cnt g n
  | 0 => rfl
  | n + 1 => by
    have := cnt_cup_cap f g n
    simp only [cnt]
    have e1 : cup f g n = (f n || g n) := rfl
    have e2 : cap f g n = (f n && g n) := rfl
    rw [e1, e2]
    cases f n <;> cases g n <;> simp <;> omega
theorem cnt_less_cap (f g : Nat → Bool) : ∀ n, cnt (less f g) n + cnt (cap f g) n = cnt f n
  | 0 => rfl
  | n + 1 => by
    have := cnt_less_cap f g n
    simp only [cnt]
    have e1 : less f g n = (f n && !g n) := rfl
    have e2 : cap f g n = (f n && g n) := rfl
    rw [e1, e2]
    cases f n <;> cases g n <;> simp <;> omega
theorem cnt_pos {f : Nat → Bool} : ∀ n, 0 < cnt f n ↔ ∃ j, j < n ∧ f j = true
  | 0 => by simp [cnt]
  | n + 1 => by
    simp only [cnt]
    constructor
    · intro h
      cases hf : f n
      · rw [hf] at h
        obtain ⟨j, hj, h1⟩ := (cnt_pos n).1 (by simpa using h)
        exact ⟨j, by omega, h1⟩
      · exact ⟨n, by omega, hf⟩
    · rintro ⟨j, hj, h1⟩
      by_cases e : j = n
      · subst e; rw [h1]; simp
      · have := (cnt_pos n).2 ⟨j, by omega, h1⟩; omega
end Go.Bs

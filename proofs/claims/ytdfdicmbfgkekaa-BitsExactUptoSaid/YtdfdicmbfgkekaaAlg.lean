/- BitsAlgebra: several sets of one room; the walk. -/
import Derived.Test.YtdfdicmbfgkekaaOne
namespace Go.Proofs.Ytdfdicmbfgkekaa
open Go.RowKit Go.Mm Go.Bs
theorem chg_iff (R S : Nat → Bool) : ∀ k, chg R S k = true ↔ ∃ i, i < 64 * k ∧ R i ≠ S i
  | 0 => by simp [chg]
  | k + 1 => by
    rw [chg, Bool.or_eq_true, chg_iff R S k]
    constructor
    · rintro (⟨i, h1, h2⟩ | h)
      · exact ⟨i, by omega, h2⟩
      · have hne : word R k ≠ word S k := fun e => by rw [e] at h; simp at h
        by_cases hall : ∀ j, j < 64 → R (64 * k + j) = S (64 * k + j)
        · exact absurd (word_congr hall) hne
        · simp only [Classical.not_forall] at hall
          obtain ⟨j, hj, h3⟩ := hall
          exact ⟨64 * k + j, by omega, h3⟩
    · rintro ⟨i, h1, h2⟩
      by_cases hi : i < 64 * k
      · exact .inl ⟨i, hi, h2⟩
      · refine .inr ?_
        have hne : word R k ≠ word S k := fun e => by
          have := word_inj e (i - 64 * k) (by omega)
          rw [show 64 * k + (i - 64 * k) = i from by omega] at this
          exact h2 this
        simp; omega
theorem chg_any {R S : Nat → Bool} {r : Nat} (hR : ∀ i, r ≤ i → R i = false) (hS : ∀ i, r ≤ i → S i = false) : chg R S (nw r) = true ↔ ∃ i, i < r ∧ R i ≠ S i := by
  rw [chg_iff]
  constructor
  · rintro ⟨i, _, h⟩
    refine ⟨i, ?_, h⟩
    rcases Nat.lt_or_ge i r with hi | hi
    · exact hi
    · exact absurd ((hR i hi).trans (hS i hi).symm) h
  · rintro ⟨i, h1, h2⟩
    exact ⟨i, by have := room_words r; omega, h2⟩
theorem chg_grow {R S : Nat → Bool} {r : Nat} (hR : ∀ i, r ≤ i → R i = false) (hS : ∀ i, r ≤ i → S i = false) (h : ∀ i, S i = true → R i = true) : chg R S (nw r) = decide (((cnt S r : Nat) : Int) < ((cnt R r : Nat) : Int)) := by
  have hm := cnt_mono r fun j _ => h j
  rw [Bool.eq_iff_iff, chg_any hR hS, decide_eq_true_iff]
  constructor
  · rintro ⟨i, h1, h2⟩
    by_cases e : cnt S r = cnt R r
    · exact absurd (cnt_eq_of r (fun j _ => h j) e i h1).symm h2
    · omega
  · intro hlt
    by_cases hall : ∀ i, i < r → R i = S i
    · have := cnt_congr r hall; omega
    · simp only [Classical.not_forall] at hall
      obtain ⟨i, h1, h2⟩ := hall
      exact ⟨i, h1, h2⟩
theorem chg_comm (R S : Nat → Bool) : ∀ k, chg R S k = chg S R k
  | 0 => rfl
  | k + 1 => by
    rw [chg, chg, chg_comm R S k]
    congr 1
    rw [Bool.eq_iff_iff, bne_iff_ne, bne_iff_ne]
    exact ne_comm
theorem chg_shrink {R S : Nat → Bool} {r : Nat} (hR : ∀ i, r ≤ i → R i = false) (hS : ∀ i, r ≤ i → S i = false) (h : ∀ i, R i = true → S i = true) : chg R S (nw r) = decide (((cnt R r : Nat) : Int) < ((cnt S r : Nat) : Int)) := by
  rw [chg_comm]; exact chg_grow hS hR h
theorem cap_full {T : Nat → Bool} {r : Nat} (h : ∀ i, r ≤ i → T i = false) : cap T (full r) = T := by
  funext i
  unfold cap full
  rcases Nat.lt_or_ge i r with hi | hi
  · simp [hi]
  · rw [h i hi]; rfl
theorem cup_comm (S T : Nat → Bool) : cup S T = cup T S := by funext i; unfold cup; exact Bool.or_comm _ _
theorem cap_comm (S T : Nat → Bool) : cap S T = cap T S := by funext i; unfold cap; exact Bool.and_comm _ _
theorem less_cap (S T : Nat → Bool) : cap (less S T) (cap S T) = none0 := by funext i; unfold cap less none0; cases S i <;> cases T i <;> rfl
theorem less_cup (S T : Nat → Bool) : cup (less S T) (cap S T) = S := by funext i; unfold cup cap less; cases S i <;> cases T i <;> rfl
theorem hasB_cup (r : Nat) (S T : Nat → Bool) (i : Int) : hasB r (cup S T) i = (hasB r S i || hasB r T i) := by unfold hasB cup; cases decide (0 ≤ i ∧ i < (r : Int)) <;> rfl
theorem hasB_cap (r : Nat) (S T : Nat → Bool) (i : Int) : hasB r (cap S T) i = (hasB r S i && hasB r T i) := by unfold hasB cap; cases decide (0 ≤ i ∧ i < (r : Int)) <;> rfl
theorem hasB_less (r : Nat) (S T : Nat → Bool) (i : Int) : hasB r (less S T) i = (hasB r S i && !hasB r T i) := by unfold hasB less; cases decide (0 ≤ i ∧ i < (r : Int)) <;> rfl
/-- several sets of one room: their words lie apart, from base on -/
structure SetsB (base : Nat) (w : World) (r : Nat) (l : List (Nat × Nat)) (Z : List (Nat → Bool)) : Prop where mk ::
  len : l.length = Z.length
  get : ∀ (i : Nat) (p : Nat × Nat) (S : Nat → Bool), l[i]? = some p → Z[i]? = some S → SetB w p.1 p.2 r S
  apart : ∀ (i j : Nat) (p q : Nat × Nat), l[i]? = some p → l[j]? = some q → i ≠ j → p.2 ≠ q.2
  base : ∀ (i : Nat) (p : Nat × Nat), l[i]? = some p → base ≤ p.2
theorem SetsB.nil (base : Nat) (w : World) (r : Nat) : SetsB base w r [] [] := ⟨rfl, (fun i p S h => by simp at h), (fun i j p q h => by simp at h), (fun i p h => by simp at h)⟩
theorem SetsB.push {base : Nat} {w w' : World} {r a g : Nat} {S : Nat → Bool} {l : List (Nat × Nat)} {Z : List (Nat → Bool)} (h : SetsB base w r l Z) (hb : Below w.heap.size w w') (hs : SetB w' a g r S) (hg : w.heap.size ≤ g) (hbase : base ≤ w.heap.size) : SetsB base w' r (l ++ [(a, g)]) (Z ++ [S]) := by
  have hl := h.len
  refine ⟨by simp [h.len], fun i p S' h1 h2 => ?_, fun i j p q h1 h2 hij => ?_, fun i p h1 => ?_⟩
  · rw [List.getElem?_append] at h1 h2
    by_cases hi : i < l.length
    · rw [if_pos hi] at h1
      rw [if_pos (by omega)] at h2
      exact (h.get i p S' h1 h2).below hb
    · rw [if_neg hi] at h1
      rw [if_neg (by omega)] at h2
      have : i - l.length = 0 := by have := (List.getElem?_eq_some_iff.1 h1).1; simp at this; omega
      rw [this] at h1
      rw [← hl, this] at h2
      simp at h1 h2
      subst h1; subst h2; exact hs
  · have key : ∀ (i : Nat) (p : Nat × Nat), l[i]? = some p → p.2 < w.heap.size := fun i p hp => by
      have hi := (List.getElem?_eq_some_iff.1 hp).1
      exact (h.get i p _ hp (List.getElem?_eq_getElem (by omega))).ws.lt
    rw [List.getElem?_append] at h1 h2
    by_cases hi : i < l.length <;> by_cases hj : j < l.length
    · rw [if_pos hi] at h1; rw [if_pos hj] at h2
      exact h.apart i j p q h1 h2 hij
    · rw [if_pos hi] at h1; rw [if_neg hj] at h2
      have := (List.getElem?_eq_some_iff.1 h2).1
      simp at this
      have e : j - l.length = 0 := by omega
      rw [e] at h2; simp at h2; subst h2
      have := key i p h1
      show p.2 ≠ g
      omega
    · rw [if_neg hi] at h1; rw [if_pos hj] at h2
      have := (List.getElem?_eq_some_iff.1 h1).1
      simp at this
      have e : i - l.length = 0 := by omega
      rw [e] at h1; simp at h1; subst h1
      have := key j q h2
      show g ≠ q.2
      omega
    · rw [if_neg hi] at h1; rw [if_neg hj] at h2
      have := (List.getElem?_eq_some_iff.1 h1).1
      have := (List.getElem?_eq_some_iff.1 h2).1
      simp at *
      omega
  · rw [List.getElem?_append] at h1
    by_cases hi : i < l.length
    · rw [if_pos hi] at h1; exact h.base i p h1
    · rw [if_neg hi] at h1
      have := (List.getElem?_eq_some_iff.1 h1).1
      simp at this
      have e : i - l.length = 0 := by omega
      rw [e] at h1; simp at h1; subst h1
      exact Nat.le_trans hbase hg
theorem SetsB.turn {base : Nat} {w w' : World} {r k : Nat} {p : Nat × Nat} {R : Nat → Bool} {l : List (Nat × Nat)} {Z : List (Nat → Bool)} (h : SetsB base w r l Z) (hp : l[k]? = some p) (hs : SetB w' p.1 p.2 r R) (hf : Fr (· = p.2) w w') : SetsB base w' r l (Z.set k R) := by
  refine ⟨by simp [h.len], fun i q S' h1 h2 => ?_, h.apart, h.base⟩
  rw [List.getElem?_set] at h2
  by_cases e : k = i
  · subst e
    rw [if_pos rfl, if_pos (by rw [← h.len]; exact (List.getElem?_eq_some_iff.1 h1).1)] at h2
    rw [hp] at h1
    injection h1 with h1; injection h2 with h2
    subst h1; subst h2; exact hs
  · rw [if_neg e] at h2
    have h3 := h.get i q S' h1 h2
    exact h3.fr hf (blk_ne h3.st (h.get k p _ hp (List.getElem?_eq_getElem (by rw [← h.len]; exact (List.getElem?_eq_some_iff.1 hp).1))).ws (by decide)) (fun e2 => h.apart i k q p h1 hp (fun e3 => e e3.symm) e2)
theorem SetsB.below {base : Nat} {w w' : World} {r : Nat} {l : List (Nat × Nat)} {Z : List (Nat → Bool)} (h : SetsB base w r l Z) (hb : Below w.heap.size w w') : SetsB base w' r l Z := ⟨h.len, fun i p S h1 h2 => (h.get i p S h1 h2).below hb, h.apart, h.base⟩
theorem SetsB.other {base : Nat} {w : World} {r i j : Nat} {p q : Nat × Nat} {S T : Nat → Bool} {l : List (Nat × Nat)} {Z : List (Nat → Bool)} (h : SetsB base w r l Z) (hp : l[i]? = some p) (hq : l[j]? = some q) (hT : Z[j]? = some T) (hij : j ≠ i) : Other w p.1 p.2 (.pointer (some ⟨q.1, 0, none⟩)) S T :=
  .inr (.inr ⟨q.1, q.2, r, rfl, h.get j q T hq hT, h.apart j i q p hq hp hij⟩)
theorem cnt_is (a g r c : Nat) (S : Nat → Bool) (w : World) (h : SetB w a g r S) (hc : cnt S r = c) : Calls Try.prog 15 #[.pointer (some ⟨a, 0, none⟩)] w fun e w' => e = .returned (.int .i64 (c : Nat)) ∧ w = w' := by
  rw [← hc]; exact count_any a g r S w h
theorem has_is (a g r : Nat) (S : Nat → Bool) (i : Int) (b : Bool) (w : World) (h : SetB w a g r S) (hb : hasB r S i = b) : Calls Try.prog 12 #[.pointer (some ⟨a, 0, none⟩), .int .i64 i] w fun e w' => e = .returned (.bool b) ∧ w = w' := by
  rw [← hb]; exact has_any a g r S i w h
def JoinIs (a g r : Nat) (R : Nat → Bool) (b : Bool) (w : World) (e : Ending) (w' : World) : Prop := e = .returned (.bool b) ∧ Hid (SetB w' a g r R ∧ Fr (· = g) w w')
theorem join_is (a g r : Nat) (S T R : Nat → Bool) (b : Bool) (q : Option Addr) (w : World) (h : SetB w a g r S) (ho : Other w a g (.pointer q) S T) (hR : cup S (cap T (full r)) = R) (hb : chg R S (nw r) = b) : Calls Try.prog 17 #[.pointer (some ⟨a, 0, none⟩), .pointer q] w (JoinIs a g r R b w) := by
  rw [← hb, ← hR]; exact (join_any a g r S T q w h ho).mono fun _ _ ⟨h1, h2, h3⟩ => ⟨h1, h2, h3⟩
theorem meet_is (a g r : Nat) (S T R : Nat → Bool) (b : Bool) (q : Option Addr) (w : World) (h : SetB w a g r S) (ho : Other w a g (.pointer q) S T) (hR : cap S T = R) (hb : chg R S (nw r) = b) : Calls Try.prog 18 #[.pointer (some ⟨a, 0, none⟩), .pointer q] w (JoinIs a g r R b w) := by
  rw [← hb, ← hR]; exact (meet_any a g r S T q w h ho).mono fun _ _ ⟨h1, h2, h3⟩ => ⟨h1, h2, h3⟩
theorem less_is (a g r : Nat) (S T R : Nat → Bool) (b : Bool) (q : Option Addr) (w : World) (h : SetB w a g r S) (ho : Other w a g (.pointer q) S T) (hR : less S T = R) (hb : chg R S (nw r) = b) : Calls Try.prog 19 #[.pointer (some ⟨a, 0, none⟩), .pointer q] w (JoinIs a g r R b w) := by
  rw [← hb, ← hR]; exact (less_any a g r S T q w h ho).mono fun _ _ ⟨h1, h2, h3⟩ => ⟨h1, h2, h3⟩
set_option maxRecDepth 100000 in
set_option maxHeartbeats 8000000 in
theorem law_algebra (room : Int) (A : Option Addr) (n c : Nat) (xs : List Int) (A' : Option Addr) (n' c' : Nat) (ys : List Int) (w : World) (hr : (Lit.int .i64 room).wf = true) (hs : Sl w 1 8 fI gI A n c xs) (hs' : Sl w 1 8 fI gI A' n' c' ys) :
    Calls Try.prog 4 #[.int .i64 room, .slice A n c, .slice A' n' c'] w fun e w' => e = .returned (.bool true) ∧ Below w.heap.size w w' := by
  have R := Mm.hid (show Rd w A n 1 (iL xs) from by have := hs.rd; rw [show xs.flatMap fI = iL xs from iL_flat xs] at this; exact this)
  have R' := Mm.hid (show Rd w A' n' 1 (iL ys) from by have := hs'.rd; rw [show ys.flatMap fI = iL ys from iL_flat ys] at this; exact this)
  have L := Mm.hid hs.len
  have L' := Mm.hid hs'.len
  have b1 : n ≤ 17592186043904 := by have := hs.room; omega
  have b1' : n' ≤ 17592186043904 := by have := hs'.room; omega
  have q1 : n ≤ c := hs.cap
  have q1' : n' ≤ c' := hs'.cap
  have HW := Mm.hid (wf64 hr)
  clear hs hs' hr
  obtain ⟨r, hr⟩ : ∃ r, roomOf room = r := ⟨_, rfl⟩
  have hrl : r ≤ 65536 := by rw [← hr]; exact roomOf_le room
  obtain ⟨S, hS⟩ : ∃ S, addAll r none0 xs = S := ⟨_, rfl⟩
  obtain ⟨T, hT⟩ : ∃ S, addAll r none0 ys = S := ⟨_, rfl⟩
  have MX : Hid (∀ w1, Rd w1 A n 1 (iL xs) → Calls Try.prog 9 #[.int .i64 room, .slice A n c] w1 (MadeEnds r S w1)) := Mm.hid fun w1 h => by
    have := made_any room A n c xs w1 HW.out h L.out b1 q1
    rwa [hr, hS] at this
  have MY : Hid (∀ w1, Rd w1 A' n' 1 (iL ys) → Calls Try.prog 9 #[.int .i64 room, .slice A' n' c'] w1 (MadeEnds r T w1)) := Mm.hid fun w1 h => by
    have := made_any room A' n' c' ys w1 HW.out h L'.out b1' q1'
    rwa [hr, hT] at this
  clear hr hS hT
  go_enter Try.func4, Try.ntmps4
  go_wp2_with fail
  refine (fixed_any _).mono ?_
  rintro e w0 ⟨rfl, bl0⟩
  have B0 : Hid (Below w.heap.size w w0 ∧ SetsB w.heap.size w0 r [] []) := ⟨bl0, SetsB.nil _ _ _⟩
  clear bl0
  go_wp2_with fail
  refine (MX.out _ (R.out.below B0.out.1)).mono ?_
  rintro e w1 ⟨a0, g0, rfl, H⟩
  have B1 : Hid (Below w.heap.size w w1 ∧ SetsB w.heap.size w1 r [(a0, g0)] [S]) := ⟨B0.out.1.trans (H.out.2.1.mono B0.out.1.size), B0.out.2.push H.out.2.1 H.out.1 H.out.2.2.2 B0.out.1.size⟩
  clear H B0
  go_wp2_with fail
  refine (MY.out _ (R'.out.below B1.out.1)).mono ?_
  rintro e w2 ⟨a1, g1, rfl, H⟩
  have B2 : Hid (Below w.heap.size w w2 ∧ SetsB w.heap.size w2 r [(a0, g0), (a1, g1)] [S, T]) := ⟨B1.out.1.trans (H.out.2.1.mono B1.out.1.size), B1.out.2.push H.out.2.1 H.out.1 H.out.2.2.2 B1.out.1.size⟩
  clear H B1
  go_wp2_with fail
  refine (MX.out _ (R.out.below B2.out.1)).mono ?_
  rintro e w3 ⟨a2, g2, rfl, H⟩
  have B3 : Hid (Below w.heap.size w w3 ∧ SetsB w.heap.size w3 r [(a0, g0), (a1, g1), (a2, g2)] [S, T, S]) := ⟨B2.out.1.trans (H.out.2.1.mono B2.out.1.size), B2.out.2.push H.out.2.1 H.out.1 H.out.2.2.2 B2.out.1.size⟩
  clear H B2
  go_wp2_with fail
  refine (MY.out _ (R'.out.below B3.out.1)).mono ?_
  rintro e w4 ⟨a3, g3, rfl, H⟩
  have B4 : Hid (Below w.heap.size w w4 ∧ SetsB w.heap.size w4 r [(a0, g0), (a1, g1), (a2, g2), (a3, g3)] [S, T, S, T]) := ⟨B3.out.1.trans (H.out.2.1.mono B3.out.1.size), B3.out.2.push H.out.2.1 H.out.1 H.out.2.2.2 B3.out.1.size⟩
  clear H B3
  go_wp2_with fail
  refine (MX.out _ (R.out.below B4.out.1)).mono ?_
  rintro e w5 ⟨a4, g4, rfl, H⟩
  have B5 : Hid (Below w.heap.size w w5 ∧ SetsB w.heap.size w5 r [(a0, g0), (a1, g1), (a2, g2), (a3, g3), (a4, g4)] [S, T, S, T, S]) := ⟨B4.out.1.trans (H.out.2.1.mono B4.out.1.size), B4.out.2.push H.out.2.1 H.out.1 H.out.2.2.2 B4.out.1.size⟩
  clear H B4
  go_wp2_with fail
  refine (MY.out _ (R'.out.below B5.out.1)).mono ?_
  rintro e w6 ⟨a5, g5, rfl, H⟩
  have B6 : Hid (Below w.heap.size w w6 ∧ SetsB w.heap.size w6 r [(a0, g0), (a1, g1), (a2, g2), (a3, g3), (a4, g4), (a5, g5)] [S, T, S, T, S, T]) := ⟨B5.out.1.trans (H.out.2.1.mono B5.out.1.size), B5.out.2.push H.out.2.1 H.out.1 H.out.2.2.2 B5.out.1.size⟩
  clear H B5
  go_wp2_with fail
  refine (MX.out _ (R.out.below B6.out.1)).mono ?_
  rintro e w7 ⟨a6, g6, rfl, H⟩
  have B7 : Hid (Below w.heap.size w w7 ∧ SetsB w.heap.size w7 r [(a0, g0), (a1, g1), (a2, g2), (a3, g3), (a4, g4), (a5, g5), (a6, g6)] [S, T, S, T, S, T, S]) := ⟨B6.out.1.trans (H.out.2.1.mono B6.out.1.size), B6.out.2.push H.out.2.1 H.out.1 H.out.2.2.2 B6.out.1.size⟩
  clear H B6
  go_wp2_with fail
  refine (MX.out _ (R.out.below B7.out.1)).mono ?_
  rintro e w8 ⟨a7, g7, rfl, H⟩
  have B8 : Hid (Below w.heap.size w w8 ∧ SetsB w.heap.size w8 r [(a0, g0), (a1, g1), (a2, g2), (a3, g3), (a4, g4), (a5, g5), (a6, g6), (a7, g7)] [S, T, S, T, S, T, S, S]) := ⟨B7.out.1.trans (H.out.2.1.mono B7.out.1.size), B7.out.2.push H.out.2.1 H.out.1 H.out.2.2.2 B7.out.1.size⟩
  clear H B7
  have SO : Hid ((∀ i, r ≤ i → S i = false) ∧ ∀ i, r ≤ i → T i = false) := ⟨(B8.out.2.get 0 _ _ rfl rfl).out, (B8.out.2.get 1 _ _ rfl rfl).out⟩
  have OX : Hid ((∀ i, r ≤ i → cup S T i = false) ∧ (∀ i, r ≤ i → cap S T i = false) ∧ ∀ i, r ≤ i → less S T i = false) := ⟨fun i hi => by unfold cup; rw [SO.out.1 i hi, SO.out.2 i hi]; rfl, fun i hi => by unfold cap; rw [SO.out.1 i hi]; rfl, fun i hi => by unfold less; rw [SO.out.1 i hi]; rfl⟩
  obtain ⟨cS, hcS⟩ : ∃ c, cnt S r = c := ⟨_, rfl⟩
  obtain ⟨cT, hcT⟩ : ∃ c, cnt T r = c := ⟨_, rfl⟩
  obtain ⟨cE, hcE⟩ : ∃ c, cnt (cup S T) r = c := ⟨_, rfl⟩
  obtain ⟨cB, hcB⟩ : ∃ c, cnt (cap S T) r = c := ⟨_, rfl⟩
  obtain ⟨cL, hcL⟩ : ∃ c, cnt (less S T) r = c := ⟨_, rfl⟩
  have kS : cS ≤ 65536 := by have := cnt_le S r; omega
  have kT : cT ≤ 65536 := by have := cnt_le T r; omega
  have kE : cE ≤ 65536 := by have := cnt_le (cup S T) r; omega
  have kB : cB ≤ 65536 := by have := cnt_le (cap S T) r; omega
  have kL : cL ≤ 65536 := by have := cnt_le (less S T) r; omega
  have Q1 : Hid (cE + cB = cS + cT) := Mm.hid (by have := cnt_cup_cap S T r; omega)
  have Q2 : Hid (cL + cB = cS) := Mm.hid (by have := cnt_less_cap S T r; omega)
  have HC : Hid (cnt S r = cS ∧ cnt T r = cT ∧ cnt (cup S T) r = cE ∧ cnt (cap S T) r = cB ∧ cnt (less S T) r = cL ∧ cnt none0 r = 0) := ⟨hcS, hcT, hcE, hcB, hcL, cnt_none r fun _ _ => rfl⟩
  have G1 : Hid (chg (cup S T) S (nw r) = decide ((cS : Int) < (cE : Int))) := by show _ = _; rw [← hcS, ← hcE]; exact chg_grow OX.out.1 SO.out.1 fun i h => by unfold cup; rw [h]; rfl
  have G2 : Hid (chg (cap S T) S (nw r) = decide ((cB : Int) < (cS : Int))) := by show _ = _; rw [← hcS, ← hcB]; exact chg_shrink OX.out.2.1 SO.out.1 fun i h => by unfold cap at h; simp at h; exact h.1
  have G3 : Hid (chg (less S T) S (nw r) = decide ((cL : Int) < (cS : Int))) := by show _ = _; rw [← hcS, ← hcL]; exact chg_shrink OX.out.2.2 SO.out.1 fun i h => by unfold less at h; simp at h; exact h.1
  have G4 : Hid (chg none0 (less S T) (nw r) = decide ((0 : Int) < (cL : Int))) := by
    show _ = _
    have h0 : cnt none0 r = 0 := cnt_none r fun _ _ => rfl
    rw [← hcL, chg_shrink (R := none0) (fun _ _ => rfl) OX.out.2.2 (fun i h => by cases h), h0]; rfl
  have G5 : Hid (chg S (less S T) (nw r) = decide ((0 : Int) < (cB : Int))) := by
    show _ = _
    rw [chg_grow SO.out.1 OX.out.2.2 (fun i h => by unfold less at h; simp at h; exact h.1), hcS, hcL]
    have := Q2.out
    rw [decide_eq_decide]; omega
  have RX : Hid (cup S (cap T (full r)) = cup S T ∧ cup T (cap S (full r)) = cup S T ∧ cap T S = cap S T ∧ cup (less S T) (cap (cap S T) (full r)) = S) := ⟨by rw [cap_full SO.out.2], by rw [cap_full SO.out.1, cup_comm], cap_comm _ _, by rw [cap_full OX.out.2.1, less_cup]⟩
  clear hcS hcT hcE hcB hcL
  go_wp2_with fail
  refine (join_is a2 g2 r S T (cup S T) _ (some ⟨a1, 0, none⟩) _ (B8.out.2.get 2 _ _ rfl rfl) (B8.out.2.other (i := 2) (j := 1) rfl rfl rfl (by decide)) RX.out.1 G1.out).mono ?_
  rintro e w9 ⟨rfl, H⟩
  have B9 : Hid (Below w.heap.size w w9 ∧ SetsB w.heap.size w9 r [(a0, g0), (a1, g1), (a2, g2), (a3, g3), (a4, g4), (a5, g5), (a6, g6), (a7, g7)] [S, T, (cup S T), T, S, T, S, S]) := ⟨B8.out.1.trans (H.out.2.below (fun k (e : k = g2) => e ▸ B8.out.2.base 2 _ rfl) B8.out.1.size), B8.out.2.turn (k := 2) rfl H.out.1 H.out.2⟩
  clear H B8
  go_wp2_with fail
  refine (join_is a3 g3 r T S (cup S T) _ (some ⟨a0, 0, none⟩) _ (B9.out.2.get 3 _ _ rfl rfl) (B9.out.2.other (i := 3) (j := 0) rfl rfl rfl (by decide)) RX.out.2.1 rfl).mono ?_
  rintro e w10 ⟨rfl, H⟩
  have B10 : Hid (Below w.heap.size w w10 ∧ SetsB w.heap.size w10 r [(a0, g0), (a1, g1), (a2, g2), (a3, g3), (a4, g4), (a5, g5), (a6, g6), (a7, g7)] [S, T, (cup S T), (cup S T), S, T, S, S]) := ⟨B9.out.1.trans (H.out.2.below (fun k (e : k = g3) => e ▸ B9.out.2.base 3 _ rfl) B9.out.1.size), B9.out.2.turn (k := 3) rfl H.out.1 H.out.2⟩
  clear H B9
  go_wp2_with fail
  refine (meet_is a4 g4 r S T (cap S T) _ (some ⟨a1, 0, none⟩) _ (B10.out.2.get 4 _ _ rfl rfl) (B10.out.2.other (i := 4) (j := 1) rfl rfl rfl (by decide)) rfl G2.out).mono ?_
  rintro e w11 ⟨rfl, H⟩
  have B11 : Hid (Below w.heap.size w w11 ∧ SetsB w.heap.size w11 r [(a0, g0), (a1, g1), (a2, g2), (a3, g3), (a4, g4), (a5, g5), (a6, g6), (a7, g7)] [S, T, (cup S T), (cup S T), (cap S T), T, S, S]) := ⟨B10.out.1.trans (H.out.2.below (fun k (e : k = g4) => e ▸ B10.out.2.base 4 _ rfl) B10.out.1.size), B10.out.2.turn (k := 4) rfl H.out.1 H.out.2⟩
  clear H B10
  go_wp2_with fail
  refine (meet_is a5 g5 r T S (cap S T) _ (some ⟨a0, 0, none⟩) _ (B11.out.2.get 5 _ _ rfl rfl) (B11.out.2.other (i := 5) (j := 0) rfl rfl rfl (by decide)) RX.out.2.2.1 rfl).mono ?_
  rintro e w12 ⟨rfl, H⟩
  have B12 : Hid (Below w.heap.size w w12 ∧ SetsB w.heap.size w12 r [(a0, g0), (a1, g1), (a2, g2), (a3, g3), (a4, g4), (a5, g5), (a6, g6), (a7, g7)] [S, T, (cup S T), (cup S T), (cap S T), (cap S T), S, S]) := ⟨B11.out.1.trans (H.out.2.below (fun k (e : k = g5) => e ▸ B11.out.2.base 5 _ rfl) B11.out.1.size), B11.out.2.turn (k := 5) rfl H.out.1 H.out.2⟩
  clear H B11
  go_wp2_with fail
  refine (less_is a6 g6 r S T (less S T) _ (some ⟨a1, 0, none⟩) _ (B12.out.2.get 6 _ _ rfl rfl) (B12.out.2.other (i := 6) (j := 1) rfl rfl rfl (by decide)) rfl G3.out).mono ?_
  rintro e w13 ⟨rfl, H⟩
  have B13 : Hid (Below w.heap.size w w13 ∧ SetsB w.heap.size w13 r [(a0, g0), (a1, g1), (a2, g2), (a3, g3), (a4, g4), (a5, g5), (a6, g6), (a7, g7)] [S, T, (cup S T), (cup S T), (cap S T), (cap S T), (less S T), S]) := ⟨B12.out.1.trans (H.out.2.below (fun k (e : k = g6) => e ▸ B12.out.2.base 6 _ rfl) B12.out.1.size), B12.out.2.turn (k := 6) rfl H.out.1 H.out.2⟩
  clear H B12
  go_wp2_with fail
  refine (less_is a7 g7 r S T (less S T) _ (some ⟨a1, 0, none⟩) _ (B13.out.2.get 7 _ _ rfl rfl) (B13.out.2.other (i := 7) (j := 1) rfl rfl rfl (by decide)) rfl rfl).mono ?_
  rintro e w14 ⟨rfl, H⟩
  have B14 : Hid (Below w.heap.size w w14 ∧ SetsB w.heap.size w14 r [(a0, g0), (a1, g1), (a2, g2), (a3, g3), (a4, g4), (a5, g5), (a6, g6), (a7, g7)] [S, T, (cup S T), (cup S T), (cap S T), (cap S T), (less S T), (less S T)]) := ⟨B13.out.1.trans (H.out.2.below (fun k (e : k = g7) => e ▸ B13.out.2.base 7 _ rfl) B13.out.1.size), B13.out.2.turn (k := 7) rfl H.out.1 H.out.2⟩
  clear H B13
  go_wp2_with fail
  refine (meet_is a7 g7 r (less S T) (cap S T) none0 _ (some ⟨a4, 0, none⟩) _ (B14.out.2.get 7 _ _ rfl rfl) (B14.out.2.other (i := 7) (j := 4) rfl rfl rfl (by decide)) (less_cap S T) G4.out).mono ?_
  rintro e w15 ⟨rfl, H⟩
  have B15 : Hid (Below w.heap.size w w15 ∧ SetsB w.heap.size w15 r [(a0, g0), (a1, g1), (a2, g2), (a3, g3), (a4, g4), (a5, g5), (a6, g6), (a7, g7)] [S, T, (cup S T), (cup S T), (cap S T), (cap S T), (less S T), none0]) := ⟨B14.out.1.trans (H.out.2.below (fun k (e : k = g7) => e ▸ B14.out.2.base 7 _ rfl) B14.out.1.size), B14.out.2.turn (k := 7) rfl H.out.1 H.out.2⟩
  clear H B14
  go_wp2_with fail
  refine (cnt_is a6 g6 r cL _ _ (B15.out.2.get 6 _ _ rfl rfl) HC.out.2.2.2.2.1).mono ?_
  rintro e w' ⟨rfl, rfl⟩
  go_wp2_with fail
  refine (cnt_is a7 g7 r 0 _ _ (B15.out.2.get 7 _ _ rfl rfl) HC.out.2.2.2.2.2).mono ?_
  rintro e w' ⟨rfl, rfl⟩
  go_wp2_with fail
  go_loop [20] (fun i => ∃ k : Nat, k ≤ r + 2 ∧ i = .int .i64 ((k : Int) - 1)) (fun i => r + 2 - (intOf i + 1).toNat)
  case atStart => exact ⟨0, by omega, rfl⟩
  case round =>
    obtain ⟨k, hk, rfl⟩ := hrel
    by_cases hlt : k < r + 2
    · obtain ⟨x, hx⟩ : ∃ x, hasB r S ((k : Int) - 1) = x := ⟨_, rfl⟩
      obtain ⟨y, hy⟩ : ∃ x, hasB r T ((k : Int) - 1) = x := ⟨_, rfl⟩
      have HX : Hid (hasB r S ((k : Int) - 1) = x ∧ hasB r T ((k : Int) - 1) = y ∧ hasB r (cup S T) ((k : Int) - 1) = (x || y) ∧ hasB r (cap S T) ((k : Int) - 1) = (x && y) ∧ hasB r (less S T) ((k : Int) - 1) = (x && !y)) := ⟨hx, hy, by rw [hasB_cup, hx, hy], by rw [hasB_cap, hx, hy], by rw [hasB_less, hx, hy]⟩
      clear hx hy
      cases x <;> cases y
      all_goals
        go_wp2_with fail
        refine (room_any a0 g0 r S _ (B15.out.2.get 0 _ _ rfl rfl)).mono ?_
        rintro e w' ⟨rfl, rfl⟩
        go_wp2_with fail
        refine (has_is a0 g0 r _ _ _ _ (B15.out.2.get 0 _ _ rfl rfl) HX.out.1).mono ?_
        rintro e w' ⟨rfl, rfl⟩
        go_wp2_with fail
        refine (has_is a1 g1 r _ _ _ _ (B15.out.2.get 1 _ _ rfl rfl) HX.out.2.1).mono ?_
        rintro e w' ⟨rfl, rfl⟩
        go_wp2_with fail
        refine (has_is a2 g2 r _ _ _ _ (B15.out.2.get 2 _ _ rfl rfl) HX.out.2.2.1).mono ?_
        rintro e w' ⟨rfl, rfl⟩
        go_wp2_with fail
        refine (has_is a3 g3 r _ _ _ _ (B15.out.2.get 3 _ _ rfl rfl) HX.out.2.2.1).mono ?_
        rintro e w' ⟨rfl, rfl⟩
        go_wp2_with fail
        refine (has_is a4 g4 r _ _ _ _ (B15.out.2.get 4 _ _ rfl rfl) HX.out.2.2.2.1).mono ?_
        rintro e w' ⟨rfl, rfl⟩
        go_wp2_with fail
        refine (has_is a5 g5 r _ _ _ _ (B15.out.2.get 5 _ _ rfl rfl) HX.out.2.2.2.1).mono ?_
        rintro e w' ⟨rfl, rfl⟩
        go_wp2_with fail
        refine (has_is a6 g6 r _ _ _ _ (B15.out.2.get 6 _ _ rfl rfl) HX.out.2.2.2.2).mono ?_
        rintro e w' ⟨rfl, rfl⟩
        go_wp2
        go_round
        case rel => exact ⟨k + 1, by omega, by go_num⟩
        case measure => simp [intOf]; omega
    · have hkn : k = r + 2 := by omega
      subst hkn
      have E1 : ((cE : Int) + (cB : Int) == (cS : Int) + (cT : Int)) = true := by have := Q1.out; simp; omega
      have E2 : ((cL : Int) + (cB : Int) == (cS : Int)) = true := by have := Q2.out; simp; omega
      go_wp2_with fail
      refine (room_any a0 g0 r S _ (B15.out.2.get 0 _ _ rfl rfl)).mono ?_
      rintro e w' ⟨rfl, rfl⟩
      go_wp2_with fail
      refine (cnt_is a2 g2 r cE _ _ (B15.out.2.get 2 _ _ rfl rfl) HC.out.2.2.1).mono ?_
      rintro e w' ⟨rfl, rfl⟩
      go_wp2_with fail
      refine (cnt_is a0 g0 r cS _ _ (B15.out.2.get 0 _ _ rfl rfl) HC.out.1).mono ?_
      rintro e w' ⟨rfl, rfl⟩
      go_wp2_with fail
      refine (cnt_is a4 g4 r cB _ _ (B15.out.2.get 4 _ _ rfl rfl) HC.out.2.2.2.1).mono ?_
      rintro e w' ⟨rfl, rfl⟩
      go_wp2_with fail
      refine (cnt_is a0 g0 r cS _ _ (B15.out.2.get 0 _ _ rfl rfl) HC.out.1).mono ?_
      rintro e w' ⟨rfl, rfl⟩
      go_wp2_with fail
      refine (cnt_is a6 g6 r cL _ _ (B15.out.2.get 6 _ _ rfl rfl) HC.out.2.2.2.2.1).mono ?_
      rintro e w' ⟨rfl, rfl⟩
      go_wp2_with fail
      refine (cnt_is a0 g0 r cS _ _ (B15.out.2.get 0 _ _ rfl rfl) HC.out.1).mono ?_
      rintro e w' ⟨rfl, rfl⟩
      go_wp2_with fail
      refine (cnt_is a2 g2 r cE _ _ (B15.out.2.get 2 _ _ rfl rfl) HC.out.2.2.1).mono ?_
      rintro e w' ⟨rfl, rfl⟩
      go_wp2_with fail
      refine (cnt_is a4 g4 r cB _ _ (B15.out.2.get 4 _ _ rfl rfl) HC.out.2.2.2.1).mono ?_
      rintro e w' ⟨rfl, rfl⟩
      go_wp2_with fail
      refine (cnt_is a0 g0 r cS _ _ (B15.out.2.get 0 _ _ rfl rfl) HC.out.1).mono ?_
      rintro e w' ⟨rfl, rfl⟩
      go_wp2_with fail
      refine (cnt_is a1 g1 r cT _ _ (B15.out.2.get 1 _ _ rfl rfl) HC.out.2.1).mono ?_
      rintro e w' ⟨rfl, rfl⟩
      go_wp2_with fail
      refine (cnt_is a6 g6 r cL _ _ (B15.out.2.get 6 _ _ rfl rfl) HC.out.2.2.2.2.1).mono ?_
      rintro e w' ⟨rfl, rfl⟩
      go_wp2_with fail
      refine (cnt_is a4 g4 r cB _ _ (B15.out.2.get 4 _ _ rfl rfl) HC.out.2.2.2.1).mono ?_
      rintro e w' ⟨rfl, rfl⟩
      go_wp2_with fail
      refine (cnt_is a0 g0 r cS _ _ (B15.out.2.get 0 _ _ rfl rfl) HC.out.1).mono ?_
      rintro e w' ⟨rfl, rfl⟩
      go_wp2_with fail
      refine (join_is a6 g6 r (less S T) (cap S T) S _ (some ⟨a4, 0, none⟩) _ (B15.out.2.get 6 _ _ rfl rfl) (B15.out.2.other (i := 6) (j := 4) rfl rfl rfl (by decide)) RX.out.2.2.2 G5.out).mono ?_
      rintro e w16 ⟨rfl, H⟩
      have B16 : Hid (Below w.heap.size w w16 ∧ SetsB w.heap.size w16 r [(a0, g0), (a1, g1), (a2, g2), (a3, g3), (a4, g4), (a5, g5), (a6, g6), (a7, g7)] [S, T, (cup S T), (cup S T), (cap S T), (cap S T), S, none0]) := ⟨B15.out.1.trans (H.out.2.below (fun k (e : k = g6) => e ▸ B15.out.2.base 6 _ rfl) B15.out.1.size), B15.out.2.turn (k := 6) rfl H.out.1 H.out.2⟩
      clear H B15
      go_wp2_with fail
      refine (cnt_is a4 g4 r cB _ _ (B16.out.2.get 4 _ _ rfl rfl) HC.out.2.2.2.1).mono ?_
      rintro e w' ⟨rfl, rfl⟩
      go_wp2_with fail
      refine (cnt_is a6 g6 r cS _ _ (B16.out.2.get 6 _ _ rfl rfl) HC.out.1).mono ?_
      rintro e w' ⟨rfl, rfl⟩
      go_wp2_with fail
      refine (cnt_is a0 g0 r cS _ _ (B16.out.2.get 0 _ _ rfl rfl) HC.out.1).mono ?_
      rintro e w' ⟨rfl, rfl⟩
      go_wp2
      go_ret
      exact ⟨rfl, B16.out.1⟩
end Go.Proofs.Ytdfdicmbfgkekaa

/- Walks: how many a set has; a word of one or of none; what of a word the room reaches; words turned one by one. -/
import Derived.Test.YtdfdicmbfgkekaaNew
namespace Go.Proofs.Ytdfdicmbfgkekaa
open Go.RowKit Go.Mm Go.Bs
theorem ret_i64 {a b : Int} (h : a = b) : Ending.returned (.int .i64 a) = .returned (.int .i64 b) := by rw [h]
theorem ret_u64 {a b : Int} (h : a = b) : Ending.returned (.int .u64 a) = .returned (.int .u64 b) := by rw [h]
theorem room_words (r : Nat) : r ≤ 64 * nw r := by unfold nw; omega
theorem cnt_word (S : Nat → Bool) (k : Nat) : cnt S (64 * (k + 1)) = cnt S (64 * k) + cnt (word S k).testBit 64 := by
  rw [show 64 * (k + 1) = 64 * k + 64 from by omega, cnt_add]
  congr 1
  exact cnt_congr 64 fun j hj => (word_bit S k j hj).symm
theorem count_any (a g r : Nat) (S : Nat → Bool) (w : World) (h : SetB w a g r S) : Calls Try.prog 15 #[.pointer (some ⟨a, 0, none⟩)] w fun e w' => e = .returned (.int .i64 (cnt S r : Nat)) ∧ w = w' := by
  have c1 : w.cell? ⟨a, 1, none⟩ = some (.slice (some ⟨g, 0, none⟩) (nw r) (nw r)) := h.st.cell 1
  have hm := h.most
  have hnw := nw_le r hm
  have HC := Mm.hid (cnt_beyond (room_words r) h.out)
  have H := Mm.hid h
  obtain ⟨n, hn⟩ : ∃ n, nw r = n := ⟨_, rfl⟩
  rw [hn] at c1 hnw
  have HN := Mm.hid hn
  clear h hn
  go_enter Try.func15, Try.ntmps15
  go_wp2_with fail
  go_loop [3, 11] (fun s i => ∃ k : Nat, k ≤ n ∧ i = .int .i64 (k : Nat) ∧ s = .int .i64 (cnt S (64 * k) : Nat)) (fun _ i => n - (intOf i).toNat)
  case atStart => exact ⟨0, Nat.zero_le _, rfl, rfl⟩
  case round =>
    obtain ⟨k, hk, rfl, rfl⟩ := hrel
    have hle := cnt_le S (64 * k)
    by_cases hlt : k < n
    · have ck : w.cell? ⟨g, k, none⟩ = some (.int .u64 ((word S k : Nat) : Int)) := (H.out.ws.cell _).trans (wcells_get (by rw [HN.out]; exact hlt))
      have hle2 := cnt_le (word S k).testBit 64
      have HS := Mm.hid (cnt_word S k)
      go_wp2_with fail
      refine (ones_any (word S k) (word_lt S k) _).mono ?_
      rintro e w' ⟨rfl, rfl⟩
      go_wp2
      go_round
      case rel => exact ⟨k + 1, by omega, by go_num, by rw [HS.out]; go_num⟩
      case measure => simp [intOf]; omega
    · have hkn : k = n := by omega
      subst hkn
      go_wp2
      go_ret
      exact ⟨ret_i64 (by rw [← HC.out, HN.out]), rfl⟩
/-- what stands in for another set: none, or one whose word k is T's -/
def OtherAt (w : World) (p : Value) (T : Nat → Bool) (k : Nat) : Prop := (p = .pointer none ∧ word T k = 0) ∨ ∃ b h q T', p = .pointer (some ⟨b, 0, none⟩) ∧ SetB w b h q T' ∧ word T' k = word T k
theorem word_beyond {w : World} {a g r k : Nat} {S : Nat → Bool} (h : SetB w a g r S) (hk : nw r ≤ k) : word S k = 0 := by
  rw [← word_none k]
  refine word_congr fun j _ => ?_
  have := room_words r
  rw [h.out _ (by omega)]; rfl
theorem word_any (p : Value) (T : Nat → Bool) (k : Nat) (w : World) (h : OtherAt w p T k) : Calls Try.prog 41 #[p, .int .i64 (k : Int)] w fun e w' => e = .returned (.int .u64 (word T k : Nat)) ∧ w = w' := by
  rcases h with ⟨rfl, h0⟩ | ⟨b, g, q, T', rfl, h, hw⟩
  · rw [h0]
    clear h0
    go_enter Try.func41, Try.ntmps41
    go_wp2
    go_ret
    exact ⟨rfl, rfl⟩
  · rw [← hw]
    have c1 : w.cell? ⟨b, 1, none⟩ = some (.slice (some ⟨g, 0, none⟩) (nw q) (nw q)) := h.st.cell 1
    obtain ⟨n, hn⟩ : ∃ n, nw q = n := ⟨_, rfl⟩
    by_cases hlt : k < n
    · have ck : w.cell? ⟨g, k, none⟩ = some (.int .u64 ((word T' k : Nat) : Int)) := (h.ws.cell _).trans (wcells_get (by omega))
      rw [hn] at c1
      clear h hw hn
      go_enter Try.func41, Try.ntmps41
      go_wp2
      go_ret
      exact ⟨rfl, rfl⟩
    · rw [word_beyond h (by omega)]
      rw [hn] at c1
      clear h hw hn
      go_enter Try.func41, Try.ntmps41
      go_wp2
      go_ret
      exact ⟨rfl, rfl⟩
def full (r : Nat) : Nat → Bool := fun i => decide (i < r)
theorem full_all {r k : Nat} (h : 64 * k + 64 ≤ r) : word (full r) k = 18446744073709551615 :=
  (word_ext (x := 18446744073709551615) (by decide) fun j hj => by
    rw [show 18446744073709551615 = 2 ^ 64 - 1 from rfl, Nat.testBit_two_pow_sub_one]
    simp [full, hj]; omega).symm
theorem full_some {r k d : Nat} (h : 64 * k + d = r) (hd : d < 64) : word (full r) k = 2 ^ d - 1 :=
  (word_ext (x := 2 ^ d - 1) (by have : 2 ^ d < 2 ^ 64 := Nat.pow_lt_pow_right (by decide) hd; omega) fun j hj => by
    rw [Nat.testBit_two_pow_sub_one]
    unfold full
    by_cases e : j < d
    · rw [decide_eq_true e, decide_eq_true (by omega)]
    · rw [decide_eq_false e, decide_eq_false (by omega)]).symm
theorem full_none {r k : Nat} (h : r ≤ 64 * k) : word (full r) k = 0 := by
  rw [← word_none k]
  exact word_congr fun j _ => by simp [full, none0]; omega
theorem top_u64 (d : Nat) (hd : d < 64) : IntKind.u64.wrap (IntKind.u64.wrap (2 ^ d) - 1) = ((2 ^ d - 1 : Nat) : Int) := by
  have : 2 ^ d < 2 ^ 64 := Nat.pow_lt_pow_right (by decide) hd
  have hp := Nat.two_pow_pos d
  have e : ((2 : Int) ^ d) = ((2 ^ d : Nat) : Int) := by simp
  rw [IntKind.wrap_u64, IntKind.wrap_u64, e]
  generalize 2 ^ d = x at this hp
  omega
theorem top_any (a g r k : Nat) (S : Nat → Bool) (w : World) (h : SetB w a g r S) (hk : k < nw r) : Calls Try.prog 42 #[.pointer (some ⟨a, 0, none⟩), .int .i64 (k : Int)] w fun e w' => e = .returned (.int .u64 (word (full r) k : Nat)) ∧ w = w' := by
  have c0 : w.cell? ⟨a, 0, none⟩ = some (.int .i64 (r : Int)) := h.st.cell 0
  have hm := h.most
  have hnw := nw_le r hm
  clear h
  by_cases h1 : 64 * k + 64 ≤ r
  · rw [full_all h1]
    go_enter Try.func42, Try.ntmps42
    go_wp2
    go_ret
    exact ⟨rfl, rfl⟩
  by_cases h2 : 64 * k < r
  · obtain ⟨d, hd⟩ : ∃ d, 64 * k + d = r := ⟨r - 64 * k, by omega⟩
    rw [full_some hd (by omega)]
    have hd64 : d < 64 := by omega
    have HT := Mm.hid (top_u64 d hd64)
    subst hd
    go_enter Try.func42, Try.ntmps42
    go_wp2
    go_ret
    exact ⟨ret_u64 HT.out, rfl⟩
  · rw [full_none (by omega)]
    by_cases h3 : 64 * k = r
    · subst h3
      go_enter Try.func42, Try.ntmps42
      go_wp2
      go_ret
      exact ⟨rfl, rfl⟩
    · have h4 : (r : Int) - 64 * (k : Int) < 0 := by omega
      go_enter Try.func42, Try.ntmps42
      go_wp2
      go_ret
      exact ⟨rfl, rfl⟩
end Go.Proofs.Ytdfdicmbfgkekaa

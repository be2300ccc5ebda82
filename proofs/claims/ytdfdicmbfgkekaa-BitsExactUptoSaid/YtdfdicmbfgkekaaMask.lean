/- Walks: masks of sixteen: a list of one, one of a list, spread, folded. -/
import Derived.Test.YtdfdicmbfgkekaaMade
import Derived.Deep.MidRow
namespace Go.Proofs.Ytdfdicmbfgkekaa
open Go.RowKit Go.Mm Go.Bs
theorem info35 : (Try.prog.info? 35).map (fun i => (i.zero, i.size, i.bytes)) = some (some (.int .i8 0), 1, 1) := by kernel_rfl
/-! ### plain -/
theorem wsum_le16 (f : Nat → Bool) : wsum f 16 < 65536 := wsum_lt f 16
theorem wsum_mono (f : Nat → Bool) {k : Nat} (h : k ≤ 16) : wsum f k < 65536 := Nat.lt_of_lt_of_le (wsum_lt f k) (Nat.pow_le_pow_right (n := 2) (by decide) h)
theorem wsum_ins (f : Nat → Bool) {x n : Nat} (hx : x < n) : wsum f n ||| 2 ^ x = wsum (ins f x) n := by
  refine Nat.eq_of_testBit_eq fun j => ?_
  rw [Nat.testBit_or, wsum_bit, wsum_bit, Nat.testBit_two_pow]
  unfold ins
  by_cases e : j = x
  · subst e; simp [hx]
  · have e2 : x ≠ j := fun h => e h.symm
    simp [e, e2]
theorem wsum_or (f : Nat → Bool) (k : Nat) : wsum f k ||| 2 ^ k = wsum f k + 2 ^ k := by
  rw [Nat.or_comm, nat_join k _ _ (Nat.mod_self _) (wsum_lt f k)]; omega
theorem testBit_sum (m : Nat) (h : m < 65536) : wsum m.testBit 16 = m := by
  refine Nat.eq_of_testBit_eq fun j => ?_
  rw [wsum_bit]
  by_cases hj : j < 16
  · simp [hj]
  · rw [Nat.testBit_lt_two_pow (Nat.lt_of_lt_of_le h (Nat.pow_le_pow_right (n := 2) (by decide) (show 16 ≤ j by omega)))]
    simp
theorem bit_mod (m k : Nat) : m / 2 ^ k % 2 = if m.testBit k then 1 else 0 := by
  have h := Nat.testBit_eq_decide_div_mod_eq (x := m) (i := k)
  cases hb : m.testBit k
  · rw [hb] at h
    have := of_decide_eq_false h.symm
    simp; omega
  · rw [hb] at h
    exact of_decide_eq_true h.symm
/-- the numbers below n of a mask, rising -/
def ml (f : Nat → Bool) (n : Nat) : List Nat := (List.range n).filter f
theorem ml_succ (f : Nat → Bool) (n : Nat) : ml f (n + 1) = ml f n ++ if f n then [n] else [] := by
  unfold ml; rw [List.range_succ, List.filter_append]; cases h : f n <;> simp [h]
theorem ml_len (f : Nat → Bool) (n : Nat) : (ml f n).length ≤ n := by
  have := List.length_filter_le f (List.range n); simpa [ml] using this
theorem ml_end (m : Nat) (k : Nat) (h : k ≤ 16) (h0 : m / 2 ^ k = 0) : ml m.testBit k = ml m.testBit 16 := by
  obtain ⟨d, hd⟩ : ∃ d, 16 = k + d := ⟨16 - k, by omega⟩
  rw [hd]
  clear hd h
  have hz : ∀ j, k ≤ j → m.testBit j = false := fun j hj => by
    rw [Nat.testBit_eq_decide_div_mod_eq]
    have hlt : m < 2 ^ k := by
      rcases Nat.lt_or_ge m (2 ^ k) with h | h
      · exact h
      · have := Nat.div_pos h (Nat.two_pow_pos k); omega
    rw [Nat.div_eq_of_lt (Nat.lt_of_lt_of_le hlt (Nat.pow_le_pow_right (n := 2) (by decide) hj))]
    rfl
  induction d with
  | zero => rfl
  | succ d ih =>
    rw [show k + (d + 1) = (k + d) + 1 from rfl, ml_succ, hz (k + d) (by omega), ← ih]; simp
def i8L (l : List Nat) : List Value := l.map fun k : Nat => Value.int .i8 (k : Int)
theorem i8L_snoc (l : List Nat) (k : Nat) : i8L l ++ [.int .i8 (k : Int)] = i8L (l ++ [k]) := by simp [i8L]
theorem i8L_get {l : List Nat} {j k : Nat} (h : l[j]? = some k) : (i8L l)[j]? = some (.int .i8 (k : Int)) := by simp [i8L, h]
theorem i8L_len (l : List Nat) : (i8L l).length = l.length := by simp [i8L]
/-! ### the list of a mask -/
def ListEnds (l : List Nat) (w : World) (e : Ending) (w' : World) : Prop := ∃ A n c, e = .returned (.slice A n c) ∧ n ≤ c ∧ n ≤ 16 ∧ Hid (l.length = n ∧ w'.ownsRow w.heap.size 35 1 (.slice A n c) n (i8L l) ∧ Below w.heap.size w w')
set_option maxHeartbeats 1000000 in
theorem list_any (m : Nat) (hm : m < 65536) (w : World) : Calls Try.prog 21 #[.int .u16 (m : Int)] w (ListEnds (ml m.testBit 16) w) := by
  have nil : w.ownsRow w.heap.size 35 1 (.slice none 0 0) 0 (i8L (ml m.testBit 0)) := ⟨by simp [i8L, ml], .inl ⟨rfl, rfl⟩⟩
  have NIL := Mm.hid nil
  clear nil
  have HZ : Hid (m / 2 ^ 16 = 0) := Mm.hid (Nat.div_eq_of_lt hm)
  go_enter Try.func21, Try.ntmps21
  go_wp2_with fail
  go_loopw [0, 3, 4] (fun mv v i wr => ∃ k n : Nat, k ≤ 16 ∧ n ≤ k ∧ i = .int .i8 (k : Nat) ∧ mv = .int .u16 ((m / 2 ^ k : Nat) : Int) ∧ Hid ((ml m.testBit k).length = n ∧ wr.ownsRow w.heap.size 35 1 v n (i8L (ml m.testBit k)) ∧ Below w.heap.size w wr)) (fun _ _ i _ => 16 - (intOf i).toNat)
  case atStart => exact ⟨0, 0, by omega, by omega, rfl, by simp, rfl, NIL.out, Below.refl _ _⟩
  case round =>
    obtain ⟨k, n, hk, hn, rfl, rfl, HK⟩ := hrel
    have hsz := HK.out.2.2.size
    have HH : Hid (((m / 2 ^ k : Nat) : Int) / 2 = ((m / 2 ^ (k + 1) : Nat) : Int)) := by
      show _ = _
      rw [Nat.pow_succ, ← Nat.div_div_eq_div_mul]; omega
    have HB := Mm.hid (bit_mod m k)
    obtain ⟨q, hq⟩ : ∃ q, m / 2 ^ k = q := ⟨_, rfl⟩
    have hql : q < 65536 := by rw [← hq]; exact Nat.lt_of_le_of_lt (Nat.div_le_self _ _) hm
    rw [hq] at HH HB
    rw [hq]
    have HQ := Mm.hid hq
    clear hq
    by_cases h0 : q = 0
    · subst h0
      have HE : Hid (ml m.testBit k = ml m.testBit 16) := Mm.hid (ml_end m k hk HQ.out)
      obtain ⟨A, c, hv, hc, _, _⟩ := own_slice HK.out.2.1
      subst hv
      have FIN : Hid ((ml m.testBit 16).length = n ∧ wr.ownsRow w.heap.size 35 1 (.slice A n c) n (i8L (ml m.testBit 16)) ∧ Below w.heap.size w wr) := by rw [← HE.out]; exact HK.out
      go_wp2
      go_ret
      exact ⟨A, n, c, rfl, hc, by omega, FIN.out⟩
    · have hk16 : k < 16 := by
        rcases Nat.lt_or_ge k 16 with h | h
        · exact h
        · have : k = 16 := by omega
          subst this
          exact absurd (HQ.out.symm.trans HZ.out) h0
      have hqb : ((q : Int) != 0) = true := by simp; omega
      have HS := Mm.hid (ml_succ m.testBit k)
      cases hb : m.testBit k
      · have hq2 : ((q : Int) % 2 == 1) = false := by have := HB.out; rw [hb] at this; simp at this ⊢; omega
        have FN : Hid ((ml m.testBit (k + 1)).length = n ∧ wr.ownsRow w.heap.size 35 1 u3 n (i8L (ml m.testBit (k + 1))) ∧ Below w.heap.size w wr) := by
          rw [HS.out, hb]; simp only [Bool.false_eq_true, if_false, List.append_nil]; exact HK.out
        clear hb h0
        go_wp2
        go_roundw
        case rel => exact ⟨k + 1, n, by omega, by omega, by go_num, by rw [HH.out], FN.out⟩
        case measure => simp [intOf]; omega
      · have hq2 : ((q : Int) % 2 == 1) = true := by have := HB.out; rw [hb] at this; simp at this ⊢; omega
        have hone : ∀ u ∈ (#[Value.int .i8 (k : Int)] : Array Value).toList, u.oneCell' = true := by simp; rfl
        have HO := Mm.hid hone
        have HBT := Mm.hid hb
        clear hone hb h0
        go_wp2_with (at_builtin; go_must (refine wp_ape1 w.heap.size rfl (.tmp 12) (.tmp 14) 37 35 (.int .i8 0) 1 1 #[.int .i8 (k : Int)] rfl Try.underlying37 info35 rfl (by decide) (by decide) u3 n _ rfl rfl rfl HO.out (by exact HK.out.2.1) HK.out.2.2 hsz (by omega) ?_))
        intro v1 w1 k1 k2 k3 k4
        have FN : Hid ((ml m.testBit (k + 1)).length = n + 1 ∧ w1.ownsRow w.heap.size 35 1 v1 (n + 1) (i8L (ml m.testBit (k + 1))) ∧ Below w.heap.size w w1) := by
          rw [HS.out, HBT.out]
          refine ⟨by simp [HK.out.1], ?_, k2⟩
          rw [if_pos rfl, ← i8L_snoc]; exact k1
        clear k1 k2 k3 k4
        go_wp2
        go_roundw
        case rel => exact ⟨k + 1, n + 1, by omega, by omega, by go_num, by rw [HH.out], FN.out⟩
        case measure => simp [intOf]; omega
/-! ### the mask of a list -/
def inL (xs : List Int) : Nat → Bool := fun k => xs.any fun x => decide (x = (k : Int))
theorem inL_snoc (xs : List Int) (x : Int) (k : Nat) : inL (xs ++ [x]) k = (inL xs k || decide (x = (k : Int))) := by simp [inL]
theorem inL_out (xs : List Int) (x : Int) (h : x < 0 ∨ 16 ≤ x) : wsum (inL (xs ++ [x])) 16 = wsum (inL xs) 16 :=
  wsum_congr 16 fun j hj => by rw [inL_snoc, decide_eq_false (by omega), Bool.or_false]
theorem inL_in (xs : List Int) (k : Nat) (h : k < 16) : wsum (inL xs) 16 ||| 2 ^ k = wsum (inL (xs ++ [(k : Int)])) 16 := by
  rw [wsum_ins _ h]
  refine wsum_congr 16 fun j _ => ?_
  rw [inL_snoc]
  unfold ins
  by_cases e : j = k
  · subst e; simp
  · rw [if_neg e, decide_eq_false (by omega), Bool.or_false]
theorem or_u16 (a k : Nat) (ha : a < 65536) (hk : k < 16) : bits .or .u16 (a : Int) (IntKind.u16.wrap (2 ^ k)) = ((a ||| 2 ^ k : Nat) : Int) := by
  have h2 : 2 ^ k < 65536 := Nat.pow_lt_pow_right (a := 2) (by decide) hk
  have e : ((2 : Int) ^ k) = ((2 ^ k : Nat) : Int) := by simp
  have e2 : ((2 ^ k : Nat) : Int) % 65536 = ((2 ^ k : Nat) : Int) := by
    generalize 2 ^ k = x at h2
    omega
  rw [IntKind.wrap_u16, e, e2, u16_or_nat _ _ ha h2]
theorem ret_u16 {a b : Int} (h : a = b) : Ending.returned (.int .u16 a) = .returned (.int .u16 b) := by rw [h]
set_option maxHeartbeats 1000000 in
theorem mask_any (A : Option Addr) (n c : Nat) (xs : List Int) (w : World) (h : Rd w A n 1 (iL xs)) (hl : xs.length = n) (hn : n ≤ 17592186043904) : Calls Try.prog 34 #[.slice A n c] w fun e w' => e = .returned (.int .u16 (wsum (inL xs) 16 : Nat)) ∧ w = w' := by
  have R := Mm.hid h
  have L := Mm.hid hl
  clear h hl
  go_enter Try.func34, Try.ntmps34
  go_wp2_with fail
  go_loop [3, 8] (fun m i => ∃ k : Nat, k ≤ n ∧ i = .int .i64 (k : Nat) ∧ m = .int .u16 (wsum (inL (xs.take k)) 16 : Nat)) (fun _ i => n - (intOf i).toNat)
  case atStart => exact ⟨0, by omega, rfl, rfl⟩
  case round =>
    obtain ⟨k, hk, rfl, rfl⟩ := hrel
    by_cases hlt : k < n
    · have hx : ∃ x, xs[k]? = some x := ⟨_, List.getElem?_eq_getElem (by have := L.out; omega)⟩
      obtain ⟨x, hx⟩ := hx
      obtain ⟨ad, hA, had, hcell⟩ := R.out.cell (iL_get hx)
      subst hA
      have HT := Mm.hid (take_snoc hx)
      have HL := Mm.hid (wsum_le16 (inL (xs.take k)))
      clear hx
      by_cases q1 : x < 0
      · have HN := Mm.hid (inL_out (xs.take k) x (.inl q1))
        go_wp2
        go_round
        case rel => exact ⟨k + 1, by omega, by go_num, by rw [← HT.out, HN.out]⟩
        case measure => simp [intOf]; omega
      by_cases q2 : x < 16
      · obtain ⟨y, rfl⟩ := Int.eq_ofNat_of_zero_le (show 0 ≤ x by omega)
        have hy : y < 16 := by omega
        have HN : Hid (bits .or .u16 ((wsum (inL (xs.take k)) 16 : Nat) : Int) (IntKind.u16.wrap (2 ^ y)) = ((wsum (inL (xs.take (k + 1))) 16 : Nat) : Int)) := by
          show _ = _
          rw [or_u16 _ _ HL.out hy, inL_in _ _ hy, HT.out]
        go_wp2
        go_round
        case rel => exact ⟨k + 1, by omega, by go_num, by rw [HN.out]⟩
        case measure => simp [intOf]; omega
      · have HN := Mm.hid (inL_out (xs.take k) x (.inr (by omega)))
        go_wp2
        go_round
        case rel => exact ⟨k + 1, by omega, by go_num, by rw [← HT.out, HN.out]⟩
        case measure => simp [intOf]; omega
    · have hkn : k = n := by omega
      subst hkn
      go_wp2
      go_ret
      exact ⟨ret_u16 (by rw [List.take_of_length_le (by rw [L.out]; exact Nat.le_refl _)]), rfl⟩
/-! ### an array of sixteen -/
def a16 (f : Nat → Int) : Array Value := ((List.range 16).map fun k : Nat => Value.int .i8 (f k)).toArray
theorem a16_get (f : Nat → Int) {k : Nat} (h : k < 16) : (a16 f)[k]? = some (.int .i8 (f k)) := by simp [a16, h]
theorem a16_size (f : Nat → Int) : (a16 f).size = 16 := by simp [a16]
def set16 (f : Nat → Int) (k : Nat) (x : Int) : Nat → Int := fun j => if j = k then x else f j
theorem a16_set (f : Nat → Int) (k : Nat) (x : Int) : (a16 f).setIfInBounds k (.int .i8 x) = a16 (set16 f k x) := by
  apply Array.ext_getElem?
  intro j
  rw [Array.getElem?_setIfInBounds]
  by_cases e : k = j
  · subst e
    by_cases hk : k < 16
    · simp [a16, hk, set16]
    · simp [a16, hk]
  · rw [if_neg e]
    have e2 : j ≠ k := fun h => e h.symm
    by_cases hj : j < 16
    · rw [a16_get _ hj, a16_get _ hj]; simp [set16, e2]
    · simp [a16, hj]
def bit16 (k : Nat) : Nat := 2 ^ k % 65536
/-- folded: of what is not 0 -/
theorem fold_any (g : Nat) (f : Nat → Int) (w : World) (h : Blk w g 36 (a16 f)) : Calls Try.prog 35 #[.pointer (some ⟨g, 0, none⟩)] w fun e w' => e = .returned (.int .u16 (wsum (fun k => f k != 0) 16 : Nat)) ∧ w = w' := by
  have H := Mm.hid h
  clear h
  go_enter Try.func35, Try.ntmps35
  go_wp2_with fail
  go_loop [3, 4, 10] (fun m b i => ∃ k : Nat, k ≤ 16 ∧ i = .int .i64 (k : Nat) ∧ b = .int .u16 ((bit16 k : Nat) : Int) ∧ m = .int .u16 (wsum (fun k => f k != 0) k : Nat)) (fun _ _ i => 16 - (intOf i).toNat)
  case atStart => exact ⟨0, by omega, rfl, rfl, rfl⟩
  case round =>
    obtain ⟨k, hk, rfl, rfl, rfl⟩ := hrel
    by_cases hlt : k < 16
    · have ck : w.cell? ⟨g, k, none⟩ = some (.int .i8 (f k)) := (H.out.cell k).trans (a16_get f hlt)
      have h2 : 2 ^ k < 65536 := Nat.pow_lt_pow_right (a := 2) (by decide) hlt
      have hm := wsum_mono (fun k => f k != 0) hk
      have HB : Hid (IntKind.u16.wrap (((bit16 k : Nat) : Int) * 2) = ((bit16 (k + 1) : Nat) : Int)) := by
        show _ = _
        unfold bit16
        rw [IntKind.wrap_u16, Nat.pow_succ]; omega
      have HO : Hid (bits .or .u16 ((wsum (fun k => f k != 0) k : Nat) : Int) ((bit16 k : Nat) : Int) = ((wsum (fun k => f k != 0) k + 2 ^ k : Nat) : Int)) := by
        show _ = _
        unfold bit16
        rw [Nat.mod_eq_of_lt h2, u16_or_nat _ _ hm h2, wsum_or]
      clear h2 hm
      by_cases hf : f k = 0
      · have HW : Hid (wsum (fun k => f k != 0) (k + 1) = wsum (fun k => f k != 0) k) := by
          show wsum (fun k => f k != 0) k + (if (f k != 0) = true then 2 ^ k else 0) = _
          rw [hf]; rfl
        have hfb : (f k != 0) = false := by simp [hf]
        clear hf
        go_wp2
        go_round
        case rel => exact ⟨k + 1, by omega, by go_num, by rw [HB.out], by rw [HW.out]⟩
        case measure => simp [intOf]; omega
      · have hfb : (f k != 0) = true := by simpa using hf
        have HW : Hid (wsum (fun k => f k != 0) (k + 1) = wsum (fun k => f k != 0) k + 2 ^ k) := by
          show wsum (fun k => f k != 0) k + (if (f k != 0) = true then 2 ^ k else 0) = _
          rw [hfb]; rfl
        clear hf
        go_wp2
        go_round
        case rel => exact ⟨k + 1, by omega, by go_num, by rw [HB.out], by rw [HO.out, HW.out]⟩
        case measure => simp [intOf]; omega
    · have hkn : k = 16 := by omega
      subst hkn
      go_wp2
      go_ret
      exact ⟨rfl, rfl⟩
end Go.Proofs.Ytdfdicmbfgkekaa

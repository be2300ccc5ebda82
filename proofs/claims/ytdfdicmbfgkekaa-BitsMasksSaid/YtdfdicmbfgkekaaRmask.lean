/- Walks: the document's masks. -/
import Derived.Test.YtdfdicmbfgkekaaSame
import Derived.Test.YtdfdicmbfgkekaaSpread
namespace Go.Proofs.Ytdfdicmbfgkekaa
open Go.RowKit Go.Mm Go.Bs
theorem bit16_lt {k : Nat} (h : k < 16) : bit16 k = 2 ^ k := Nat.mod_eq_of_lt (Nat.pow_lt_pow_right (a := 2) (n := 16) (by decide) h)
theorem bit16_succ (k : Nat) : IntKind.u16.wrap (((bit16 k : Nat) : Int) * 2) = ((bit16 (k + 1) : Nat) : Int) := by
  unfold bit16; rw [IntKind.wrap_u16, Nat.pow_succ]
  generalize 2 ^ k = x
  omega
theorem power_any (n : Nat) (w : World) (hn : n ≤ 16) : Calls Try.prog 59 #[.int .i64 (n : Int)] w fun e w' => e = .returned (.int .u16 (bit16 n : Nat)) ∧ w = w' := by
  go_enter Try.func59, Try.ntmps59
  go_wp2_with fail
  go_loop [3, 4] (fun p i => ∃ k : Nat, k ≤ n ∧ i = .int .i64 (k : Nat) ∧ p = .int .u16 ((bit16 k : Nat) : Int)) (fun _ i => n - (intOf i).toNat)
  case atStart => exact ⟨0, by omega, rfl, rfl⟩
  case round =>
    obtain ⟨k, hk, rfl, rfl⟩ := hrel
    have HB := Mm.hid (bit16_succ k)
    by_cases hlt : k < n
    · go_wp2
      go_round
      case rel => exact ⟨k + 1, by omega, by go_num, by rw [HB.out]⟩
      case measure => simp [intOf]; omega
    · have hkn : k = n := by omega
      subst hkn
      go_wp2
      go_ret
      exact ⟨rfl, rfl⟩
theorem holds_any (m i : Nat) (w : World) (hm : m < 65536) (hi : i < 16) : Calls Try.prog 45 #[.int .u16 (m : Int), .int .i64 (i : Int)] w fun e w' => e = .returned (.bool (m.testBit i)) ∧ w = w' := by
  obtain ⟨p, hp⟩ : ∃ p, bit16 i = p := ⟨_, rfl⟩
  have HC : Hid (Calls Try.prog 59 #[.int .i64 (i : Int)] w fun e w' => e = .returned (.int .u16 (p : Nat)) ∧ w = w') := by
    have := power_any i w (by omega)
    rw [hp] at this; exact this
  have hp0 : 0 < p := by rw [← hp, bit16_lt hi]; exact Nat.two_pow_pos i
  have hp1 : p < 65536 := by rw [← hp]; exact Nat.mod_lt _ (by decide)
  have fin : ((IntKind.u16.wrap ((m : Int) / (p : Int))).tmod 2 == 1) = m.testBit i := by
    have hq : m / p < 65536 := Nat.lt_of_le_of_lt (Nat.div_le_self _ _) hm
    have h := bit_mod m i
    rw [← bit16_lt hi, hp] at h
    rw [show ((m : Int) / (p : Int)) = ((m / p : Nat) : Int) from by simp]
    generalize m / p = q at h hq
    rw [IntKind.wrap_u16, Int.emod_eq_of_lt (by omega) (by omega), Int.tmod_eq_emod_of_nonneg (by omega)]
    cases hb : m.testBit i
    · rw [hb] at h; simp at h ⊢; omega
    · rw [hb] at h; simp at h ⊢; omega
  have FIN : Hid (Ending.returned (.bool ((IntKind.u16.wrap ((m : Int) / (p : Int))).tmod 2 == 1)) = .returned (.bool (m.testBit i))) := Mm.hid (by rw [fin])
  have hpi : ((p : Int) == 0) = false := by simp; omega
  clear hp fin
  go_enter Try.func45, Try.ntmps45
  go_wp2_with fail
  refine HC.out.mono ?_
  rintro e w' ⟨rfl, rfl⟩
  go_wp2
  go_ret
  exact ⟨FIN.out, rfl⟩
set_option maxHeartbeats 1000000 in
theorem rlist_any (m : Nat) (hm : m < 65536) (w : World) : Calls Try.prog 20 #[.int .u16 (m : Int)] w (ListEnds (ml m.testBit 16) w) := by
  have nil : w.ownsRow w.heap.size 35 1 (.slice none 0 0) 0 (i8L (ml m.testBit 0)) := ⟨by simp [i8L, ml], .inl ⟨rfl, rfl⟩⟩
  have NIL := Mm.hid nil
  clear nil
  go_enter Try.func20, Try.ntmps20
  go_wp2_with fail
  go_loopw [3, 4] (fun v i wr => ∃ k n : Nat, k ≤ 16 ∧ n ≤ k ∧ i = .int .i64 (k : Nat) ∧ Hid ((ml m.testBit k).length = n ∧ wr.ownsRow w.heap.size 35 1 v n (i8L (ml m.testBit k)) ∧ Below w.heap.size w wr)) (fun _ i _ => 16 - (intOf i).toNat)
  case atStart => exact ⟨0, 0, by omega, by omega, rfl, rfl, NIL.out, Below.refl _ _⟩
  case round =>
    obtain ⟨k, n, hk, hn, rfl, HK⟩ := hrel
    have hsz := HK.out.2.2.size
    by_cases hlt : k < 16
    · have HS := Mm.hid (ml_succ m.testBit k)
      have HC := Mm.hid (holds_any m k wr hm hlt)
      cases hb : m.testBit k
      · rw [hb] at HC
        have FN : Hid ((ml m.testBit (k + 1)).length = n ∧ wr.ownsRow w.heap.size 35 1 u3 n (i8L (ml m.testBit (k + 1))) ∧ Below w.heap.size w wr) := by
          rw [HS.out, hb]; simp only [Bool.false_eq_true, if_false, List.append_nil]; exact HK.out
        clear hb
        go_wp2_with fail
        refine HC.out.mono ?_
        rintro e w' ⟨rfl, rfl⟩
        go_wp2
        go_roundw
        case rel => exact ⟨k + 1, n, by omega, by omega, by go_num, FN.out⟩
        case measure => simp [intOf]; omega
      · rw [hb] at HC
        have hone : ∀ u ∈ (#[Value.int .i8 (k : Int)] : Array Value).toList, u.oneCell' = true := by simp; rfl
        have HO := Mm.hid hone
        have HBT := Mm.hid hb
        clear hone hb
        go_wp2_with fail
        refine HC.out.mono ?_
        rintro e w' ⟨rfl, rfl⟩
        go_wp2_with (at_builtin; go_must (refine wp_ape1 w.heap.size rfl (.tmp 14) (.tmp 17) 37 35 (.int .i8 0) 1 1 #[.int .i8 (k : Int)] rfl Try.underlying37 info35 rfl (by decide) (by decide) u3 n _ rfl rfl rfl HO.out (by exact HK.out.2.1) HK.out.2.2 hsz (by omega) ?_))
        intro v1 w1 k1 k2 k3 k4
        have FN : Hid ((ml m.testBit (k + 1)).length = n + 1 ∧ w1.ownsRow w.heap.size 35 1 v1 (n + 1) (i8L (ml m.testBit (k + 1))) ∧ Below w.heap.size w w1) := by
          rw [HS.out, HBT.out]
          refine ⟨by simp [HK.out.1], ?_, k2⟩
          rw [if_pos rfl, ← i8L_snoc]; exact k1
        clear k1 k2 k3 k4
        go_wp2
        go_roundw
        case rel => exact ⟨k + 1, n + 1, by omega, by omega, by go_num, FN.out⟩
        case measure => simp [intOf]; omega
    · have hk16 : k = 16 := by omega
      subst hk16
      obtain ⟨A, c, hv, hc, _, _⟩ := own_slice HK.out.2.1
      subst hv
      go_wp2
      go_ret
      exact ⟨A, n, c, rfl, hc, by omega, HK.out⟩
theorem spTo_same {f : Nat → Bool} {k : Nat} (h : f k = false) : spTo f (k + 1) = spTo f k := by
  funext j
  unfold spTo
  by_cases e : j = k
  · subst e; simp [sp, h]
  · by_cases h2 : j < k
    · rw [if_pos h2, if_pos (by omega)]
    · rw [if_neg h2, if_neg (by omega)]
set_option maxRecDepth 100000 in
set_option maxHeartbeats 2000000 in
theorem rspread_any (m : Nat) (hm : m < 65536) (w : World) : Calls Try.prog 25 #[.int .u16 (m : Int)] w (SpreadEnds (sp m.testBit) w) := by
  have z1 := Blk.new w (a16 fun _ => 0) 36
  have z2 := Blk.new (w.alloc (.cells (a16 fun _ => 0) 36)) (a16 fun _ => 0) 36
  rw [show (w.alloc (.cells (a16 fun _ => 0) 36)).heap.size = w.heap.size + 1 from by simp] at z2
  have B0 : Below w.heap.size w ((w.alloc (.cells (a16 fun _ => 0) 36)).alloc (.cells (a16 fun _ => 0) 36)) := ((Below.refl _ _).alloc (Nat.le_refl _) _).alloc (by simp) _
  have K0 : Hid (Blk ((w.alloc (.cells (a16 fun _ => 0) 36)).alloc (.cells (a16 fun _ => 0) 36)) w.heap.size 36 (a16 fun _ => 0) ∧ Blk ((w.alloc (.cells (a16 fun _ => 0) 36)).alloc (.cells (a16 fun _ => 0) 36)) (w.heap.size + 1) 36 (a16 (spTo m.testBit 0)) ∧ Below w.heap.size w ((w.alloc (.cells (a16 fun _ => 0) 36)).alloc (.cells (a16 fun _ => 0) 36))) :=
    ⟨z1.keep (Below.heap_alloc _ _ _ (by simp)), by rw [a16_congr (f := spTo m.testBit 0) (h := fun _ => 0) fun j _ => if_neg (by omega)]; exact z2, B0⟩
  clear z1 z2 B0
  rw [← zero16] at K0
  go_enter Try.func25, Try.ntmps25
  go_wp2_with fail
  rw [zero16] at K0
  go_loopw [4] (fun i wr => ∃ k : Nat, k ≤ 16 ∧ i = .int .i64 (k : Nat) ∧ Hid (Blk wr w.heap.size 36 (a16 fun _ => 0) ∧ Blk wr (w.heap.size + 1) 36 (a16 (spTo m.testBit k)) ∧ Below w.heap.size w wr)) (fun i _ => 16 - (intOf i).toNat)
  case atStart => exact ⟨0, by omega, rfl, K0.out⟩
  case round =>
    obtain ⟨k, hk, rfl, HK⟩ := hrel
    clear K0
    by_cases hlt : k < 16
    · have HC := Mm.hid (holds_any m k wr hm hlt)
      cases hb : m.testBit k
      · rw [hb] at HC
        have FN : Hid (Blk wr w.heap.size 36 (a16 fun _ => 0) ∧ Blk wr (w.heap.size + 1) 36 (a16 (spTo m.testBit (k + 1))) ∧ Below w.heap.size w wr) := by rw [spTo_same hb]; exact HK.out
        clear hb
        go_wp2_with fail
        refine HC.out.mono ?_
        rintro e w' ⟨rfl, rfl⟩
        go_wp2
        go_roundw
        case rel => exact ⟨k + 1, by omega, by go_num, FN.out⟩
        case measure => simp [intOf]; omega
      · rw [hb] at HC
        have ck : wr.cell? ⟨w.heap.size + 1, k, none⟩ = some (.int .i8 (spTo m.testBit k k)) := (HK.out.2.1.cell k).trans (a16_get _ hlt)
        have dk : wr.frozen? ⟨w.heap.size + 1, k, none⟩ = false := HK.out.2.1.free k
        have FN : Hid (Blk (wr.setCell ⟨w.heap.size + 1, k, none⟩ (.int .i8 1)) w.heap.size 36 (a16 fun _ => 0) ∧ Blk (wr.setCell ⟨w.heap.size + 1, k, none⟩ (.int .i8 1)) (w.heap.size + 1) 36 (a16 (spTo m.testBit (k + 1))) ∧ Below w.heap.size w (wr.setCell ⟨w.heap.size + 1, k, none⟩ (.int .i8 1))) := by
          have hf := Fr.setCell wr ⟨w.heap.size + 1, k, none⟩ (.int .i8 1)
          refine ⟨hf.blk HK.out.1 (by show w.heap.size ≠ w.heap.size + 1; omega), ?_, HK.out.2.2.trans (hf.below (fun j (e : j = w.heap.size + 1) => by omega) HK.out.2.2.size)⟩
          have := HK.out.2.1.set k (.int .i8 1)
          rw [a16_set, show (1 : Int) = sp m.testBit k from by unfold sp; rw [hb]; rfl, spTo_set] at this
          rw [show (1 : Int) = sp m.testBit k from by unfold sp; rw [hb]; rfl]
          exact this
        clear hb
        go_wp2_with fail
        refine HC.out.mono ?_
        rintro e w' ⟨rfl, rfl⟩
        go_wp2
        go_roundw
        case rel => exact ⟨k + 1, by omega, by go_num, FN.out⟩
        case measure => simp [intOf]; omega
    · have hkn : k = 16 := by omega
      subst hkn
      have G1 : wr.heap[w.heap.size + 1]? = some (.cells (a16 (sp m.testBit)) 36 (0, 0)) := by have := HK.out.2.1; rw [spTo_end] at this; exact this
      have FN : Hid (Blk (wr.setCells w.heap.size 0 (a16 (sp m.testBit)).toList) w.heap.size 36 (a16 (sp m.testBit)) ∧ Below w.heap.size w (wr.setCells w.heap.size 0 (a16 (sp m.testBit)).toList)) :=
        ⟨Blk.setAll HK.out.1 (by simp [a16_size]), HK.out.2.2.trans ((Fr.sets w.heap.size _ 0 wr).below (fun j (e : j = w.heap.size) => by omega) HK.out.2.2.size)⟩
      have HG := Mm.hid G1
      clear G1
      go_wp2_with (first | (refine wpList_load_row rfl 36 (.tmp 3) rfl (w.heap.size + 1) rfl 36 (a16 (sp m.testBit)) (0, 0) _ HG.out Try.underlying36 rfl (by rw [a16_size]; exact size36) ?_) | (refine wpList_store_mid rfl 36 (.tmp 2) (.tmp 16) rfl w.heap.size 0 (a16 (sp m.testBit)) rfl rfl (Blk.there HK.out.1 (by simp [a16_size])) (by rw [a16_size]; exact size36) (a16_one _) ?_))
      exact bodyPost_ret (results_cell_row (p := 2) (ty := 36) rfl _ _ w.heap.size 36 _ (0, 0) _ rfl FN.out.1 Try.underlying36 rfl (by rw [a16_size]; exact size36)) rfl ⟨rfl, FN.out.2⟩
theorem sum16 {f : Nat → Bool} {t : Nat} (h : t < 16) : IntKind.u16.wrap (((wsum f t : Nat) : Int) + ((bit16 t : Nat) : Int)) = ((wsum f t + 2 ^ t : Nat) : Int) := by
  have h1 := wsum_lt f t
  have h2 : 2 ^ (t + 1) ≤ 2 ^ 16 := Nat.pow_le_pow_right (by decide) h
  rw [Nat.pow_succ] at h2
  rw [bit16_lt h, IntKind.wrap_u16]
  generalize 2 ^ t = x at h1 h2
  generalize wsum f t = y at h1
  omega
theorem wsum_yes {f : Nat → Bool} {t : Nat} (h : f t = true) : wsum f (t + 1) = wsum f t + 2 ^ t := by show wsum f t + (if f t then 2 ^ t else 0) = _; rw [h]; rfl
theorem wsum_no {f : Nat → Bool} {t : Nat} (h : f t = false) : wsum f (t + 1) = wsum f t := by show wsum f t + (if f t then 2 ^ t else 0) = _; rw [h]; rfl
set_option maxRecDepth 100000 in
set_option maxHeartbeats 2000000 in
theorem rfold_any (f : Nat → Int) (w : World) : Calls Try.prog 49 #[.agg (a16 f)] w fun e w' => e = .returned (.int .u16 (wsum (fun k => f k != 0) 16 : Nat)) ∧ Below w.heap.size w w' := by
  obtain ⟨g, hg⟩ : ∃ g : Nat → Bool, (fun k => f k != 0) = g := ⟨_, rfl⟩
  have HG := Mm.hid hg
  rw [hg]
  have K0 := Mm.hid (Blk.new w (a16 f) 36)
  have B0 := Mm.hid ((Below.refl w.heap.size w).alloc (Nat.le_refl _) (.cells (a16 f) 36))
  clear hg
  go_enter Try.func49, Try.ntmps49
  go_wp2_with fail
  go_loop [3, 4] (fun m i => ∃ k : Nat, k ≤ 16 ∧ i = .int .i64 (k : Nat) ∧ m = .int .u16 ((wsum g k : Nat) : Int)) (fun _ i => 16 - (intOf i).toNat)
  case atStart => exact ⟨0, by omega, rfl, rfl⟩
  case round =>
    obtain ⟨k, hk, rfl, rfl⟩ := hrel
    by_cases hlt : k < 16
    · have ck : (w.alloc (.cells (a16 f) 36)).cell? ⟨w.heap.size, k, none⟩ = some (.int .i8 (f k)) := (K0.out.cell k).trans (a16_get f hlt)
      have HT := Mm.hid (sum16 (f := g) hlt)
      cases hs : g k
      · have hfk : (f k != 0) = false := by have := HG.out; rw [← this] at hs; exact hs
        have HN := Mm.hid (wsum_no hs)
        clear hs
        go_wp2
        go_round
        case rel => exact ⟨k + 1, by omega, by go_num, by rw [HN.out]⟩
        case measure => simp [intOf]; omega
      · have hfk : (f k != 0) = true := by have := HG.out; rw [← this] at hs; exact hs
        have HN := Mm.hid (wsum_yes hs)
        clear hs
        go_wp2_with fail
        refine (power_any k _ (by omega)).mono ?_
        rintro e w' ⟨rfl, rfl⟩
        go_wp2
        go_round
        case rel => exact ⟨k + 1, by omega, by go_num, by rw [HT.out, HN.out]⟩
        case measure => simp [intOf]; omega
    · have hkn : k = 16 := by omega
      subst hkn
      go_wp2
      go_ret
      exact ⟨rfl, B0.out⟩
theorem inL_take (xs : List Int) (k i : Nat) {x : Int} (h : xs[k]? = some x) : inL (xs.take (k + 1)) i = (inL (xs.take k) i || decide (x = (i : Int))) := by rw [← take_snoc h, inL_snoc]
set_option maxRecDepth 100000 in
set_option maxHeartbeats 2000000 in
theorem rmask_any (A : Option Addr) (n c : Nat) (xs : List Int) (w : World) (h : Rd w A n 1 (iL xs)) (hl : xs.length = n) (hn : n ≤ 17592186043904) : Calls Try.prog 46 #[.slice A n c] w fun e w' => e = .returned (.int .u16 (wsum (inL xs) 16 : Nat)) ∧ w = w' := by
  have R := Mm.hid h
  have L := Mm.hid hl
  clear h hl
  obtain ⟨g, hg⟩ : ∃ g : Nat → Bool, inL xs = g := ⟨_, rfl⟩
  have HG := Mm.hid hg
  rw [hg]
  clear hg
  go_enter Try.func46, Try.ntmps46
  go_wp2_with fail
  go_loop [3, 4] (fun m i => ∃ k : Nat, k ≤ 16 ∧ i = .int .i64 (k : Nat) ∧ m = .int .u16 ((wsum g k : Nat) : Int)) (fun _ i => 16 - (intOf i).toNat)
  case atStart => exact ⟨0, by omega, rfl, rfl⟩
  case round =>
    obtain ⟨i, hi, rfl, rfl⟩ := hrel
    by_cases hlt : i < 16
    · go_wp2_with fail
      go_loop [5, 6] (fun b j => ∃ k : Nat, k ≤ n ∧ j = .int .i64 (k : Nat) ∧ b = .bool (inL (xs.take k) i)) (fun _ j => n - (intOf j).toNat)
      case atStart => exact ⟨0, by omega, rfl, rfl⟩
      case round =>
        obtain ⟨k, hk, rfl, rfl⟩ := hrel
        by_cases hkl : k < n
        · obtain ⟨x, hx⟩ : ∃ x, xs[k]? = some x := ⟨_, List.getElem?_eq_getElem (by have := L.out; omega)⟩
          obtain ⟨ad, hA, had, hcell⟩ := R.out.cell (iL_get hx)
          subst hA
          have HT := Mm.hid (inL_take xs k i hx)
          clear hx
          cases hb : inL (xs.take k) i
          · have HN : Hid (inL (xs.take (k + 1)) i = (x == (i : Int))) := Mm.hid (by rw [HT.out, hb, Bool.false_or]; rw [Bool.eq_iff_iff]; simp)
            clear hb
            go_wp2
            go_round
            case rel => exact ⟨k + 1, by omega, by go_num, by rw [HN.out]⟩
            case measure => simp [intOf]; omega
          · have HN : Hid (inL (xs.take (k + 1)) i = true) := Mm.hid (by rw [HT.out, hb, Bool.true_or])
            clear hb
            go_wp2
            go_round
            case rel => exact ⟨k + 1, by omega, by go_num, by rw [HN.out]⟩
            case measure => simp [intOf]; omega
        · have hkn : k = n := by omega
          subst hkn
          have HE : Hid (inL (xs.take k) i = g i) := Mm.hid (by rw [List.take_of_length_le (by rw [L.out]; exact Nat.le_refl _), HG.out])
          have HT := Mm.hid (sum16 (f := g) hlt)
          rw [HE.out]
          cases hs : g i
          · have HN := Mm.hid (wsum_no hs)
            clear hs
            go_wp2
            go_round
            case rel => exact ⟨i + 1, by omega, by go_num, by rw [HN.out]⟩
            case measure => simp [intOf]; omega
          · have HN := Mm.hid (wsum_yes hs)
            clear hs
            go_wp2_with fail
            refine (power_any i _ (by omega)).mono ?_
            rintro e w' ⟨rfl, rfl⟩
            go_wp2
            go_round
            case rel => exact ⟨i + 1, by omega, by go_num, by rw [HT.out, HN.out]⟩
            case measure => simp [intOf]; omega
    · have hkn : i = 16 := by omega
      subst hkn
      go_wp2
      go_ret
      exact ⟨rfl, rfl⟩
end Go.Proofs.Ytdfdicmbfgkekaa

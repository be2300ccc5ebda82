/- BitsMasks: arrays folded; the walk. -/
import Derived.Test.YtdfdicmbfgkekaaMasks
import Derived.Test.YtdfdicmbfgkekaaFixed
namespace Go.Proofs.Ytdfdicmbfgkekaa
open Go.RowKit Go.Mm Go.Bs
section
variable {ops : Array Oper} {rest : List Oper} {o : Oper} {a : Act} {w : World} {Q : Exit → Act → World → Prop}
/-- an array of sixteen, read; guarded or not -/
theorem wp_ld36 (hw : Region.wanted o (yielded ops a.tmps) = true) (x : Operand) (ho : o.op = .load 36 x) (g : Nat) (hx : a.eval x = .pointer (some ⟨g, 0, none⟩)) (f : Nat → Int) (hg : Blk w g 36 (a16 f))
    (h : wpList Try.prog ops Q rest (a.put o.dst (.agg (a16 f))) w) : wpList Try.prog ops Q (o :: rest) a w :=
  wpList_step fun K hK => by
    rw [if_pos hw]
    exact wp_load_row 36 x ho g hx 36 (a16 f) (0, 0) _ hg Try.underlying36 rfl (by rw [a16_size]; exact size36) (hK _ _ h)
/-- a new array, written -/
theorem wp_new36 (hgd : o.guard = none) (x y : Operand) (ho : o.op = .store 36 x y) (f : Nat → Int) (hx : a.eval x = .pointer (some ⟨w.heap.size, 0, none⟩)) (hy : a.eval y = .agg (a16 f))
    (h : ∀ w', Blk w' w.heap.size 36 (a16 f) → Below w.heap.size w w' → wpList Try.prog ops Q rest (a.put o.dst undef) w') :
    wpList Try.prog ops Q (o :: rest) a (w.alloc (.cells #[.int .i8 0, .int .i8 0, .int .i8 0, .int .i8 0, .int .i8 0, .int .i8 0, .int .i8 0, .int .i8 0, .int .i8 0, .int .i8 0, .int .i8 0, .int .i8 0, .int .i8 0, .int .i8 0, .int .i8 0, .int .i8 0] 36)) := by
  rw [zero16]
  have hb := Blk.new w (a16 fun _ => 0) 36
  exact wpList_store_mid hgd 36 x y ho w.heap.size 0 (a16 f) hx hy (Blk.there hb (by rw [a16_size, a16_size]; exact Nat.le_refl _)) (by rw [a16_size]; exact size36) (a16_one _) (h _ (Blk.setAll hb (by rw [a16_size, a16_size])) (((Below.refl _ _).alloc (Nat.le_refl _) _).trans ((Fr.sets w.heap.size _ 0 _).below (fun j (e : j = w.heap.size) => by omega) (by simp))))
end
theorem eq36 (f : Nat → Int) (W : World) : (Op.equalIn 10000 36 (.agg (a16 f)) (.agg (a16 f))).run Try.prog W = .ok true W := by
  obtain ⟨i, hi, hzz⟩ := Option.map_eq_some_iff.1 info35
  simp only [Prod.mk.injEq] at hzz
  have hc : Try.prog.cellsOf 35 = 1 := by kernel_rfl
  rw [run_equalIn_array W 9999 _ _ Try.underlying36 hi, hc]
  simp [a16, Op.eqItems, List.range, List.range.loop, part, run_sizeOf, hi, run_equalIn_int _ 35 .i8 _ _ _ Try.underlying35]
/-- each place turned -/
def tf (f : Nat → Int) : Nat → Int := fun j => if f j = 0 then (j : Int) - 20 else 0
def tfTo (f : Nat → Int) (k : Nat) : Nat → Int := fun j => if j < k then tf f j else f j
theorem tfTo_set (f : Nat → Int) (k : Nat) : set16 (tfTo f k) k (tf f k) = tfTo f (k + 1) := by
  funext j
  unfold set16 tfTo
  by_cases e : j = k
  · subst e; simp
  · rw [if_neg e]
    by_cases h : j < k
    · rw [if_pos h, if_pos (by omega)]
    · rw [if_neg h, if_neg (by omega)]
theorem tfTo_at (f : Nat → Int) (k : Nat) : tfTo f k k = f k := if_neg (by omega)
theorem tfTo_zero (f : Nat → Int) : tfTo f 0 = f := rfl
theorem tfTo_end (f : Nat → Int) : a16 (tfTo f 16) = a16 (tf f) := a16_congr fun _ hj => if_pos hj
theorem fold_nil (w : World) : Calls Try.prog 35 #[.pointer none] w fun e w' => e = .returned (.int .u16 0) ∧ w = w' := by
  go_enter Try.func35, Try.ntmps35
  go_wp2
  go_ret
  exact ⟨rfl, rfl⟩
set_option maxRecDepth 100000 in
set_option maxHeartbeats 8000000 in
theorem folded_any (f : Nat → Int) (w : World) : Calls Try.prog 27 #[.agg (a16 f)] w fun e w' => e = .returned (.bool true) ∧ Below w.heap.size w w' := by
  obtain ⟨M, hM⟩ : ∃ M, wsum (fun k => f k != 0) 16 = M := ⟨_, rfl⟩
  obtain ⟨M2, hM2⟩ : ∃ M, wsum (fun k => tf f k != 0) 16 = M := ⟨_, rfl⟩
  have HM := Mm.hid (And.intro hM hM2)
  clear hM hM2
  have K1 : Hid (Blk (w.alloc (.cells (a16 f) 36)) w.heap.size 36 (a16 f) ∧ Below w.heap.size w (w.alloc (.cells (a16 f) 36))) := Mm.hid ⟨Blk.new _ _ _, (Below.refl _ _).alloc (Nat.le_refl _) _⟩
  have e1 := eq36 f
  have E1 := Mm.hid e1
  have E2 := Mm.hid (eq36 (tf f))
  clear e1
  go_enter Try.func27, Try.ntmps27
  go_wp2_with (refine wp_ld36 rfl (.tmp 1) rfl w.heap.size rfl f K1.out.1 ?_)
  refine (rfold_any f _).mono ?_
  rintro e w2 ⟨rfl, bl2⟩
  rw [HM.out.1]
  have K2 : Hid (Blk w2 w.heap.size 36 (a16 f) ∧ Below w.heap.size w w2) := Mm.hid ⟨(Fr.of_below bl2).blk K1.out.1 (fun h => h), K1.out.2.trans (bl2.mono K1.out.2.size)⟩
  clear bl2
  go_wp2_with (first | (refine wp_ld36 rfl (.tmp 1) rfl w.heap.size rfl f K2.out.1 ?_) | (refine wp_new36 rfl (.tmp 4) (.tmp 13) rfl f rfl rfl ?_; intro w3 hb3 bl3; have K3 : Hid (Blk w3 w.heap.size 36 (a16 f) ∧ Blk w3 w2.heap.size 36 (a16 f) ∧ Below w.heap.size w w3) := Mm.hid ⟨(Fr.of_below bl3).blk K2.out.1 (fun h => h), hb3, K2.out.2.trans (bl3.mono K2.out.2.size)⟩; clear hb3 bl3))
  refine (fold_any w2.heap.size f _ K3.out.2.1).mono ?_
  rintro e w' ⟨rfl, rfl⟩
  rw [HM.out.1]
  go_wp2_with fail
  refine (fold_any w2.heap.size f _ K3.out.2.1).mono ?_
  rintro e w' ⟨rfl, rfl⟩
  rw [HM.out.1]
  have e1 := E1.out
  go_wp2_with (first | (refine wp_ld36 rfl (.tmp 1) rfl w.heap.size rfl f K3.out.1 ?_) | (refine wp_ld36 rfl (.tmp 4) rfl w2.heap.size rfl f K3.out.2.1 ?_))
  clear e1
  go_loopw [8] (fun i wr => ∃ k : Nat, k ≤ 16 ∧ i = .int .i64 (k : Nat) ∧ Hid (Blk wr w2.heap.size 36 (a16 (tfTo f k)) ∧ Below w.heap.size w wr)) (fun i _ => 16 - (intOf i).toNat)
  case atStart => exact ⟨0, by omega, rfl, K3.out.2⟩
  case round =>
    obtain ⟨k, hk, rfl, HK⟩ := hrel
    by_cases hlt : k < 16
    · have ck : wr.cell? ⟨w2.heap.size, k, none⟩ = some (.int .i8 (f k)) := (HK.out.1.cell k).trans (by rw [a16_get _ hlt, tfTo_at])
      have dk : wr.frozen? ⟨w2.heap.size, k, none⟩ = false := HK.out.1.free k
      have FN : Hid (∀ x, x = tf f k → Blk (wr.setCell ⟨w2.heap.size, k, none⟩ (.int .i8 x)) w2.heap.size 36 (a16 (tfTo f (k + 1))) ∧ Below w.heap.size w (wr.setCell ⟨w2.heap.size, k, none⟩ (.int .i8 x))) := Mm.hid fun x hx => by
        have := HK.out.1.set k (.int .i8 x)
        rw [a16_set, hx, tfTo_set, ← hx] at this
        exact ⟨this, HK.out.2.setCell K2.out.2.size _⟩
      by_cases hf : f k = 0
      · have hfb : (f k == 0) = true := by simp [hf]
        have HV : Hid ((k : Int) - 20 = tf f k) := Mm.hid (by unfold tf; rw [if_pos hf])
        clear hf
        go_wp2
        go_roundw
        case rel => exact ⟨k + 1, by omega, by go_num, FN.out _ HV.out⟩
        case measure => simp [intOf]; omega
      · have hfb : (f k == 0) = false := by simpa using hf
        have HV : Hid (0 = tf f k) := Mm.hid (by unfold tf; rw [if_neg hf])
        clear hf
        go_wp2
        go_roundw
        case rel => exact ⟨k + 1, by omega, by go_num, FN.out _ HV.out⟩
        case measure => simp [intOf]; omega
    · have hkn : k = 16 := by omega
      subst hkn
      have KE : Hid (Blk wr w2.heap.size 36 (a16 (tf f)) ∧ Below w.heap.size w wr) := by have := HK.out; rw [tfTo_end] at this; exact Mm.hid this
      clear HK
      go_wp2_with (first | (refine wp_ld36 rfl (.tmp 4) rfl w2.heap.size rfl (tf f) KE.out.1 ?_) | (refine wp_new36 rfl (.tmp 9) (.tmp 34) rfl (tf f) rfl rfl ?_; intro w4 hb4 bl4; have K4 : Hid (Blk w4 w2.heap.size 36 (a16 (tf f)) ∧ Blk w4 wr.heap.size 36 (a16 (tf f)) ∧ Below w.heap.size w w4) := Mm.hid ⟨(Fr.of_below bl4).blk KE.out.1 (fun h => h), hb4, KE.out.2.trans (bl4.mono KE.out.2.size)⟩; clear hb4 bl4))
      refine (fold_any w2.heap.size (tf f) _ K4.out.1).mono ?_
      rintro e w' ⟨rfl, rfl⟩
      rw [HM.out.2]
      have e2 := E2.out
      go_wp2_with (first | (refine wp_ld36 rfl (.tmp 4) rfl w2.heap.size rfl (tf f) K4.out.1 ?_) | (refine wp_ld36 rfl (.tmp 9) rfl wr.heap.size rfl (tf f) K4.out.2.1 ?_))
      clear e2
      refine (rfold_any (tf f) _).mono ?_
      rintro e w5 ⟨rfl, bl5⟩
      rw [HM.out.2]
      have B5 : Hid (Below w.heap.size w w5) := Mm.hid (K4.out.2.2.trans (bl5.mono K4.out.2.2.size))
      clear bl5
      go_wp2_with fail
      refine (fold_nil _).mono ?_
      rintro e w' ⟨rfl, rfl⟩
      go_wp2
      go_ret
      exact ⟨rfl, B5.out⟩
end Go.Proofs.Ytdfdicmbfgkekaa

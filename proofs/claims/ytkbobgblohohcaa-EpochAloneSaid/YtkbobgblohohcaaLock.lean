/- Walks: a lock made; the law LockNew. -/
import Derived.Test.YtkbobgblohohcaaHas
namespace Go.Proofs.Ytkbobgblohohcaa
open Go.RowKit Go.Mm Go.Cells
/-- the error of two addresses -/
def lockC (n : Nat) (a b : Int) : Int := if a < 0 ∨ (n : Int) ≤ a ∨ b < 0 ∨ (n : Int) ≤ b then 140 else if a = b then 1 else 0
theorem lockC_bad {n : Nat} {a b : Int} (h : a < 0 ∨ (n : Int) ≤ a ∨ b < 0 ∨ (n : Int) ≤ b) : lockC n a b = 140 := if_pos h
theorem lockC_eq {n : Nat} {a : Int} (h : ¬ (a < 0 ∨ (n : Int) ≤ a ∨ a < 0 ∨ (n : Int) ≤ a)) : lockC n a a = 1 := by unfold lockC; rw [if_neg h, if_pos rfl]
theorem lockC_ok {n : Nat} {a b : Int} (h : ¬ (a < 0 ∨ (n : Int) ≤ a ∨ b < 0 ∨ (n : Int) ≤ b)) (hab : a ≠ b) : lockC n a b = 0 := by unfold lockC; rw [if_neg h, if_neg hab]
def LkEnds (c : Int) (t : TypeId) (m : Nat) (a b : Int) (w : World) (e : Ending) (w' : World) : Prop :=
  (c ≠ 0 ∧ e = .returned (.tuple #[.pointer none, .int .i64 c]) ∧ w = w') ∨ (c = 0 ∧ e = .returned (.tuple #[.pointer (some ⟨w.heap.size, 0, none⟩), .int .i64 0]) ∧ w' = w.alloc (.cells #[.pointer (some ⟨m, 0, none⟩), .int .i64 a, .int .i64 b] t))
theorem lock_nil (a b : Int) (w : World) : Calls Try.prog 42 #[.pointer none, .int .i64 a, .int .i64 b] w fun e w' => e = .returned (.tuple #[.pointer none, .int .i64 2]) ∧ w = w' := by
  go_enter Try.func42, Try.ntmps42
  go_wp2
  go_ret2
  exact ⟨rfl, rfl⟩
theorem pick17_any (x : Int) (n : Nat) (w : World) (hn : 1 ≤ n) (hn' : n ≤ 4294967296) : Calls Try.prog 43 #[.int .i64 x, .int .i64 (n : Int)] w (PickEnds n x w) := by
  have hz : ((n : Int) == 0) = false := by rw [beq_eq_false_iff_ne]; omega
  have hr := Mm.hid (tmod_emod x n (by omega))
  have q1 := Int.emod_nonneg x (show (n : Int) ≠ 0 by omega)
  have q2 := Int.emod_lt_of_pos x (show (0 : Int) < n by omega)
  have fin : ∀ y : Int, y = x % (n : Int) → PickEnds n x w (.returned (.int .i64 y)) w := fun y hy =>
    ⟨(x % (n : Int)).toNat, by omega, by rw [hy, Int.toNat_of_nonneg q1], rfl, Int.toNat_of_nonneg q1⟩
  have FIN := Mm.hid fin
  clear fin
  have hb := Mm.hid (And.intro q1 q2)
  clear q1 q2
  by_cases h : x.tmod n < 0
  · have e1 : Hid (x.tmod n + n = x % (n : Int)) := by have := hr.out; rw [if_pos h] at this; exact this
    have b1 : x.tmod n + n ≤ 4294967296 := by have := e1.out; have := hb.out; omega
    have b2 : 0 ≤ x.tmod n + n := by have := e1.out; have := hb.out; omega
    go_enter Try.func43, Try.ntmps43
    go_wp2
    go_ret
    exact FIN.out _ e1.out
  · have e1 : Hid (x.tmod n = x % (n : Int)) := by have := hr.out; rw [if_neg h] at this; exact this
    go_enter Try.func43, Try.ntmps43
    go_wp2
    go_ret
    exact FIN.out _ e1.out
theorem idx142 (a b : Int) (W : World) : (Instr.index 142 (.agg #[.int .i64 a, .int .i64 b]) (.int .i64 0)).run Try.prog W = .ok (.int .i64 a) W ∧ (Instr.index 142 (.agg #[.int .i64 a, .int .i64 b]) (.int .i64 1)).run Try.prog W = .ok (.int .i64 b) W := by
  have hc : Try.prog.cellsOf 3 = 1 := by kernel_rfl
  obtain ⟨i3, hi3, z3⟩ := Option.map_eq_some_iff.1 info3
  constructor <;> simp [Instr.index, run_underlying Try.underlying142, part, run_sizeOf, hi3, hc, asIntOf] <;> rfl
set_option maxRecDepth 100000 in
set_option maxHeartbeats 1000000 in
theorem lock_any (base g n : Nat) (F : Nat → Prop) (S : Cm) (a b : Int) (w : World) (h : MemB base F w g S) (hl : S.ws.length = n) (_ : n ≤ 65536) : Calls Try.prog 42 #[.pointer (some ⟨g, 0, none⟩), .int .i64 a, .int .i64 b] w (LkEnds (lockC n a b) 146 g a b w) := by
  have H := Mm.hid h
  have L := Mm.hid hl
  obtain ⟨c, hc⟩ : ∃ c, lockC n a b = c := ⟨_, rfl⟩
  rw [hc]
  have HC := Mm.hid hc
  clear h hl hc
  go_enter Try.func42, Try.ntmps42
  go_wp2_with fail
  go_loopw [9, 15] (fun _ i wr => ∃ k : Nat, k ≤ 2 ∧ i = .int .i64 (k : Nat) ∧ (1 ≤ k → 0 ≤ a ∧ a < (n : Int)) ∧ (2 ≤ k → 0 ≤ b ∧ b < (n : Int)) ∧ w = wr) (fun _ i _ => 2 - (intOf i).toNat)
  case atStart => exact ⟨0, by decide, rfl, fun h => by omega, fun h => by omega, rfl⟩
  case round =>
    obtain ⟨k, hk, rfl, ha, hb, rfl⟩ := hrel
    obtain rfl | rfl | rfl : k = 0 ∨ k = 1 ∨ k = 2 := by omega
    · clear ha hb
      have ix := (idx142 a b w).1
      by_cases q1 : a < 0
      · have E : Hid (c = 140) := by show _ = _; rw [← HC.out]; exact lockC_bad (.inl q1)
        go_wp2
        go_ret2
        have hE := E.out
        exact .inl ⟨by rw [hE]; decide, hE ▸ rfl, rfl⟩
      go_wp2_with fail
      refine (len_any base g F S n _ H.out L.out).mono ?_
      rintro e w1 ⟨rfl, rfl⟩
      by_cases q2 : (n : Int) ≤ a
      · have E : Hid (c = 140) := by show _ = _; rw [← HC.out]; exact lockC_bad (.inr (.inl q2))
        go_wp2
        go_ret2
        have hE := E.out
        exact .inl ⟨by rw [hE]; decide, hE ▸ rfl, rfl⟩
      · go_wp2
        go_roundw
        case rel => exact ⟨1, by decide, by go_num, fun _ => ⟨by omega, by omega⟩, fun h => by omega, trivial⟩
        case measure => simp [intOf]
    · have ha' := ha (by decide)
      clear ha hb
      have ix := (idx142 a b w).2
      by_cases q1 : b < 0
      · have E : Hid (c = 140) := by show _ = _; rw [← HC.out]; exact lockC_bad (.inr (.inr (.inl q1)))
        go_wp2
        go_ret2
        have hE := E.out
        exact .inl ⟨by rw [hE]; decide, hE ▸ rfl, rfl⟩
      go_wp2_with fail
      refine (len_any base g F S n _ H.out L.out).mono ?_
      rintro e w1 ⟨rfl, rfl⟩
      by_cases q2 : (n : Int) ≤ b
      · have E : Hid (c = 140) := by show _ = _; rw [← HC.out]; exact lockC_bad (.inr (.inr (.inr q2)))
        go_wp2
        go_ret2
        have hE := E.out
        exact .inl ⟨by rw [hE]; decide, hE ▸ rfl, rfl⟩
      · go_wp2
        go_roundw
        case rel => exact ⟨2, by decide, by go_num, fun _ => ha', fun h => ⟨by omega, by omega⟩, trivial⟩
        case measure => simp [intOf]
    · have ha' := ha (by decide)
      have hb' := hb (by decide)
      clear ha hb
      by_cases hab : a = b
      · subst hab
        have E : Hid (c = 1) := by show _ = _; rw [← HC.out]; exact lockC_eq (by omega)
        have hbb : (a == a) = true := by simp
        go_wp2
        go_ret2
        have hE := E.out
        exact .inl ⟨by rw [hE]; decide, hE ▸ rfl, rfl⟩
      · have E : Hid (c = 0) := by show _ = _; rw [← HC.out]; exact lockC_ok (by omega) hab
        have hbb : (a == b) = false := beq_eq_false_iff_ne.2 hab
        clear hab
        go_wp2
        go_ret2
        exact .inr ⟨E.out, rfl, rfl⟩
/-- the document's memory, made -/
theorem ref_mem (n : Nat) (w : World) (h1 : 1 ≤ n) (h2 : n ≤ 65536) : Calls Try.prog 33 #[.int .i64 (n : Int)] w fun e w' => e = .returned (.tuple #[.pointer (some ⟨w.heap.size, 0, none⟩), .int .i64 0]) ∧ w' = w.alloc (.cells #[.int .i64 (n : Int), .slice none 0 0, .slice none 0 0, .int .i64 0] 141) := by
  go_enter Try.func33, Try.ntmps33
  go_wp2
  go_ret2
  exact ⟨rfl, rfl⟩
set_option maxHeartbeats 1000000 in
theorem ref_lock (r n : Nat) (a b : Int) (w : World) (h : w.cell? ⟨r, 0, none⟩ = some (.int .i64 (n : Int))) (_ : n ≤ 65536) : Calls Try.prog 44 #[.pointer (some ⟨r, 0, none⟩), .int .i64 a, .int .i64 b] w (LkEnds (lockC n a b) 148 r a b w) := by
  obtain ⟨c, hc⟩ : ∃ c, lockC n a b = c := ⟨_, rfl⟩
  rw [hc]
  have HC := Mm.hid hc
  clear hc
  by_cases q1 : a < 0
  · have E : Hid (c = 140) := by show _ = _; rw [← HC.out]; exact lockC_bad (.inl q1)
    go_enter Try.func44, Try.ntmps44
    go_wp2
    go_ret2
    have hE := E.out
    exact .inl ⟨by rw [hE]; decide, hE ▸ rfl, rfl⟩
  by_cases q2 : (n : Int) ≤ a
  · have E : Hid (c = 140) := by show _ = _; rw [← HC.out]; exact lockC_bad (.inr (.inl q2))
    go_enter Try.func44, Try.ntmps44
    go_wp2
    go_ret2
    have hE := E.out
    exact .inl ⟨by rw [hE]; decide, hE ▸ rfl, rfl⟩
  by_cases q3 : b < 0
  · have E : Hid (c = 140) := by show _ = _; rw [← HC.out]; exact lockC_bad (.inr (.inr (.inl q3)))
    go_enter Try.func44, Try.ntmps44
    go_wp2
    go_ret2
    have hE := E.out
    exact .inl ⟨by rw [hE]; decide, hE ▸ rfl, rfl⟩
  by_cases q4 : (n : Int) ≤ b
  · have E : Hid (c = 140) := by show _ = _; rw [← HC.out]; exact lockC_bad (.inr (.inr (.inr q4)))
    go_enter Try.func44, Try.ntmps44
    go_wp2
    go_ret2
    have hE := E.out
    exact .inl ⟨by rw [hE]; decide, hE ▸ rfl, rfl⟩
  by_cases hab : a = b
  · subst hab
    have E : Hid (c = 1) := by show _ = _; rw [← HC.out]; exact lockC_eq (by omega)
    have hbb : (a == a) = true := by simp
    go_enter Try.func44, Try.ntmps44
    go_wp2
    go_ret2
    have hE := E.out
    exact .inl ⟨by rw [hE]; decide, hE ▸ rfl, rfl⟩
  · have E : Hid (c = 0) := by show _ = _; rw [← HC.out]; exact lockC_ok (by omega) hab
    have hbb : (a == b) = false := beq_eq_false_iff_ne.2 hab
    clear hab
    go_enter Try.func44, Try.ntmps44
    go_wp2
    go_ret2
    exact .inr ⟨E.out, rfl, rfl⟩
set_option maxRecDepth 100000 in
set_option maxHeartbeats 1000000 in
theorem law_locknew (x a b : Int) (w : World) (_ : (Lit.int .i64 x).wf = true) (_ : (Lit.int .i64 a).wf = true) (_ : (Lit.int .i64 b).wf = true) :
    Calls Try.prog 11 #[.int .i64 x, .int .i64 a, .int .i64 b] w fun e w' => e = .returned (.bool true) ∧ Below w.heap.size w w' := by
  go_enter Try.func11, Try.ntmps11
  go_wp2_with fail
  refine (lock_nil a b _).mono ?_
  rintro e w0 ⟨rfl, rfl⟩
  go_wp2_with fail
  refine (pick17_any x 64 _ (by decide) (by decide)).mono ?_
  rintro e w0 ⟨p, hp, rfl, rfl, -⟩
  have hp1 : ((1 : Int) + (p : Int)) = ((1 + p : Nat) : Int) := by omega
  have HP := Mm.hid hp1
  clear hp1
  have hn1 : 1 ≤ 1 + p := by omega
  have hn2 : 1 + p ≤ 64 := by omega
  go_wp2_with fail
  rw [HP.out]
  generalize 1 + p = n at *
  clear HP hp
  refine (new_good n _ hn1 (by omega)).mono ?_
  rintro e w1 ⟨g, rfl, N1⟩
  have H1 : Hid (Has w.heap.size g w (fun _ => True) (Cm.new n) w1) := ⟨_, fun _ => False, N1.out.2.1, N1.out.2.2, fun _ h => h.elim, fun _ _ _ => trivial⟩
  clear N1
  go_wp2_with fail
  refine (ref_mem n _ hn1 (by omega)).mono ?_
  rintro e w2 ⟨rfl, hw2⟩
  have RB : Hid (Blk w2 w1.heap.size 141 #[.int .i64 (n : Int), .slice none 0 0, .slice none 0 0, .int .i64 0]) := by show Blk _ _ _ _; rw [hw2]; exact Blk.new w1 _ 141
  have B2 : Hid (Below w1.heap.size w1 w2) := by show Below _ _ _; rw [hw2]; exact (Below.refl _ _).alloc (Nat.le_refl _) _
  have H2 : Hid (Has w.heap.size g w (fun _ => True) (Cm.new n) w2) := by
    obtain ⟨F, G, h1, h2, _⟩ := H1.out.out
    exact ⟨F, fun _ => False, h1.below B2.out, h2.trans (B2.out.mono H1.out.le), fun _ h => h.elim, fun _ _ _ => trivial⟩
  have LN : Hid ((Cm.new n).ws.length = n) := by show _ = _; simp [Cm.new]
  have LT : Hid ((Cm.new n).tr.length = 0) := rfl
  clear hw2 H1 B2
  generalize w1.heap.size = r at *
  obtain ⟨c, hc⟩ : ∃ c, lockC n a b = c := ⟨_, rfl⟩
  have HCC := Mm.hid hc
  clear hc
  obtain ⟨F2, _, f2, _⟩ := H2.out.out
  have MB := Mm.hid f2
  clear f2
  go_wp2_with fail
  refine (lock_any _ g n F2 (Cm.new n) a b _ MB.out LN.out (by omega)).mono ?_
  rw [HCC.out]
  rintro e w3 (⟨hc0, rfl, rfl⟩ | ⟨rfl, rfl, hw3⟩)
  · have cb : (c != 0) = true := by simpa using hc0
    have CB := Mm.hid hc0
    have c0 := RB.out.cell 0
    clear hc0 c0
    go_wp2_with fail
    refine (ref_lock r n a b _ (RB.out.cell 0) (by omega)).mono ?_
    rw [HCC.out]
    rintro e w3 (⟨_, rfl, rfl⟩ | ⟨rfl, _, _⟩)
    · have cc : (c == c) = true := by simp
      go_wp2_with fail
      refine (H2.out.trace LT.out (by decide)).mono ?_
      rintro e w4 ⟨A4, c4, rfl, hc4, H4⟩
      go_wp2
      go_ret
      exact ⟨by simp, H4.out.below⟩
    · exact absurd rfl CB.out
  · have B3 : Hid (Below w2.heap.size w2 w3) := by show Below _ _ _; rw [hw3]; exact (Below.refl _ _).alloc (Nat.le_refl _) _
    have RB3 := Mm.hid (RB.out.keep (B3.out.block _ RB.out.lt))
    have H3 : Hid (Has w.heap.size g w (fun _ => True) (Cm.new n) w3) := by
      obtain ⟨F, G, h1, h2, _⟩ := H2.out.out
      exact ⟨F, fun _ => False, h1.below B3.out, h2.trans (B3.out.mono H2.out.le), fun _ h => h.elim, fun _ _ _ => trivial⟩
    clear hw3 H2 RB MB B3
    generalize w2.heap.size = q at *
    go_wp2_with fail
    refine (ref_lock r n a b _ (RB3.out.cell 0) (by omega)).mono ?_
    rw [HCC.out]
    rintro e w4 (⟨h0, _, _⟩ | ⟨_, rfl, hw4⟩)
    · exact absurd rfl h0
    · have B4 : Hid (Below w3.heap.size w3 w4) := by show Below _ _ _; rw [hw4]; exact (Below.refl _ _).alloc (Nat.le_refl _) _
      have H4 : Hid (Has w.heap.size g w (fun _ => True) (Cm.new n) w4) := by
        obtain ⟨F, G, h1, h2, _⟩ := H3.out.out
        exact ⟨F, fun _ => False, h1.below B4.out, h2.trans (B4.out.mono H3.out.le), fun _ h => h.elim, fun _ _ _ => trivial⟩
      clear hw4 H3 RB3 B4
      generalize w3.heap.size = q2 at *
      go_wp2_with fail
      refine (H4.out.trace LT.out (by decide)).mono ?_
      rintro e w5 ⟨A5, c5, rfl, hc5, H5⟩
      go_wp2
      go_ret
      exact ⟨by simp, H5.out.below⟩
end Go.Proofs.Ytkbobgblohohcaa

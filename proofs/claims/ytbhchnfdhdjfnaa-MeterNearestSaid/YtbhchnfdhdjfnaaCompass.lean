/- Walk: Compass: the sum of turns, as whole numbers. -/
import Derived.Test.YtbhchnfdhdjfnaaTwo
namespace Go.Proofs.Ytbhchnfdhdjfnaa
open Go.RowKit Go.Mm
@[go_sem] theorem run_cadd (P : Program) (w : World) (t : TypeId) (a b c d : Nat) :
    (binOp .add t (.complex .f64 a b) (.complex .f64 c d)).run P w = .ok (.complex .f64 (fres .add a c w) (fres .add b d (w.drewN (fdn .add a c)))) (w.drewN (fdn .add a c + fdn .add b d)) := by
  have h1 := run_fadd P w t a c
  have h2 := run_fadd P (w.drewN (fdn .add a c)) t b d
  simp only [binOp, ne_eq, not_true_eq_false, if_false] at h1 h2 ⊢
  simp [Op.complexOp, Op.Complex.arith, h1, h2, Result.andThen]
@[go_sem] theorem run_store_float (P : Program) (w : World) (a : Addr) (m : Mode) (k : FloatKind) (b : Nat) : (store a (.float k b) m).run P w = stored P w a (.float k b) m := run_store P w a _ m rfl
@[go_sem] theorem run_store_complex (P : Program) (w : World) (a : Addr) (m : Mode) (k : FloatKind) (b c : Nat) : (store a (.complex k b c) m).run P w = stored P w a (.complex k b c) m := run_store P w a _ m rfl
theorem and3 (m : Int) : bits BinOp.and IntKind.i64 m 3 = m % 4 := by
  have h : (BitVec.ofInt 64 m &&& BitVec.ofInt 64 3).toNat = (m % 4).toNat := by
    rw [BitVec.toNat_and, show (BitVec.ofInt 64 3).toNat = 2 ^ 2 - 1 from rfl, Nat.and_two_pow_sub_one_eq_mod, BitVec.toNat_ofInt]
    omega
  have hb := Int.emod_nonneg m (show (4 : Int) ≠ 0 by decide)
  have hb2 := Int.emod_lt_of_pos m (show (0 : Int) < 4 by decide)
  show IntKind.i64.wrap ((BitVec.ofInt 64 m &&& BitVec.ofInt 64 3).toNat : Int) = _
  rw [h]
  generalize m % 4 = r at *
  have : r = 0 ∨ r = 1 ∨ r = 2 ∨ r = 3 := by omega
  rcases this with rfl | rfl | rfl | rfl <;> decide
theorem one_bits : Dy 4607182418800017408 1 0 := Dy.ofInt 1 (by decide)
theorem minus_bits : Dy 13830554455654793216 (-1) 0 := (show floatOfInt .f64 (-1) = 13830554455654793216 by decide) ▸ Dy.ofInt (-1) (by decide)
def reOf (m : Int) : Int := if m % 4 = 0 then 1 else if m % 4 = 2 then -1 else 0
def imOf (m : Int) : Int := if m % 4 = 1 then 1 else if m % 4 = 3 then -1 else 0
def reTo (xs : List Int) (k : Nat) : Int := ((xs.take k).map reOf).sum
def imTo (xs : List Int) (k : Nat) : Int := ((xs.take k).map imOf).sum
theorem reTo_succ (xs : List Int) (k : Nat) (h : k < xs.length) : reTo xs (k + 1) = reTo xs k + reOf (xs.getD k 0) := by
  unfold reTo
  rw [List.take_succ_eq_append_getElem h, List.map_append, List.sum_append]
  simp [List.getD_eq_getElem?_getD, h]
theorem imTo_succ (xs : List Int) (k : Nat) (h : k < xs.length) : imTo xs (k + 1) = imTo xs k + imOf (xs.getD k 0) := by
  unfold imTo
  rw [List.take_succ_eq_append_getElem h, List.map_append, List.sum_append]
  simp [List.getD_eq_getElem?_getD, h]
theorem re_one (m : Int) : (reOf m).natAbs ≤ 1 := by unfold reOf; repeat (first | omega | split)
theorem im_one (m : Int) : (imOf m).natAbs ≤ 1 := by unfold imOf; repeat (first | omega | split)
theorem reTo_le (xs : List Int) (k : Nat) (h : k ≤ xs.length) : (reTo xs k).natAbs ≤ k := by
  induction k with
  | zero => simp [reTo]
  | succ k ih => rw [reTo_succ xs k (by omega)]; have := re_one (xs.getD k 0); have := ih (by omega); omega
theorem imTo_le (xs : List Int) (k : Nat) (h : k ≤ xs.length) : (imTo xs k).natAbs ≤ k := by
  induction k with
  | zero => simp [imTo]
  | succ k ih => rw [imTo_succ xs k (by omega)]; have := im_one (xs.getD k 0); have := ih (by omega); omega
def RdI (w : World) (A : Option Addr) (n : Nat) (xs : List Int) : Prop :=
  xs.length = n ∧ (0 < n → ∃ ad, A = some ad ∧ ad.block < w.heap.size ∧ ∀ j, j < n → w.cell? (ad.add j) = some (.int .i64 (xs.getD j 0)))
theorem rdI_of {w : World} {A : Option Addr} {n : Nat} {xs : List Int} (h : Rd w A n 1 (xs.flatMap fI)) : RdI w A n xs := by
  have hm : xs.flatMap fI = xs.map (.int .i64 ·) := flatMap_one _ xs
  rw [hm] at h
  have h1 : xs.length = n := by have := h.1; simpa using this
  refine ⟨h1, fun h0 => ?_⟩
  obtain ⟨ad, rfl, hb, hc⟩ := h.2 h0
  refine ⟨ad, rfl, hb, fun j hj => hc j _ ?_⟩
  rw [List.getElem?_map, List.getElem?_eq_getElem (by omega)]
  simp [List.getD_eq_getElem?_getD, List.getElem?_eq_getElem (show j < xs.length by omega)]
theorem RdI.below {w w' : World} {A : Option Addr} {n : Nat} {xs : List Int} (h : RdI w A n xs) (hb : Below w.heap.size w w') : RdI w' A n xs :=
  ⟨h.1, fun hn => by
    obtain ⟨ad, rfl, hl, hc⟩ := h.2 hn
    refine ⟨ad, rfl, Nat.lt_of_lt_of_le hl hb.size, fun j hj => ?_⟩
    have := hc j hj
    rwa [hb.cell (World.block_lt_of_cell? w _ this)]⟩
def Turned (xs : List Int) (w : World) (e : Ending) (w' : World) : Prop :=
  ∃ a b, e = .returned (.complex .f64 a b) ∧ Below w.heap.size w w' ∧ Dy a (reTo xs xs.length) 0 ∧ Dy b (imTo xs xs.length) 0
set_option maxHeartbeats 400000 in
theorem compass_any (A : Option Addr) (n c : Nat) (xs : List Int) (w : World) (h : RdI w A n xs) (hn : n ≤ 1125899906842624) :
    Calls Try.prog 22 #[.slice A n c] w (Turned xs w) := by
  have H := Mm.hid h
  clear h
  go_enter Try.func22, Try.ntmps22
  go_wp2
  go_loopw [4, 6, 10] (fun s x i wr => ∃ k a b m, k ≤ n ∧ i = .int .i64 (k : Nat) ∧ s = .complex .f64 a b ∧ Hid (Dy a (reTo xs k) 0) ∧ Hid (Dy b (imTo xs k) 0) ∧ wr = (w.alloc (.cells #[.complex .f64 4607182418800017408 0, .complex .f64 0 4607182418800017408, .complex .f64 13830554455654793216 0, .complex .f64 0 13830554455654793216] 67)).drewN m) (fun _ _ i _ => n - (intOf i).toNat)
  case atStart => exact ⟨0, 0, 0, 0, Nat.zero_le _, rfl, rfl, Dy.zero, Dy.zero, rfl⟩
  case round =>
    obtain ⟨k, a, b, m, hk, rfl, rfl, ha, hb, rfl⟩ := hrel
    by_cases hlt : k < n
    · obtain ⟨ad, hA, hl, hc⟩ := H.out.2 (by omega)
      subst hA
      have h1 : (((w.alloc (.cells #[.complex .f64 4607182418800017408 0, .complex .f64 0 4607182418800017408, .complex .f64 13830554455654793216 0, .complex .f64 0 13830554455654793216] 67)).drewN m)).cell? (ad.add k) = some (.int .i64 (xs.getD k 0)) := by
        show (w.alloc _).cell? _ = _
        rw [World.cell?_alloc_lt _ _ _ (by rw [add_block]; exact hl)]; exact hc k hlt
      have hx := and3 (xs.getD k 0)
      have S1 := Mm.hid (reTo_succ xs k (by have := H.out.1; omega))
      have S2 := Mm.hid (imTo_succ xs k (by have := H.out.1; omega))
      have L1 := reTo_le xs k (by have := H.out.1; omega)
      have L2 := imTo_le xs k (by have := H.out.1; omega)
      have B := Mm.hid (And.intro L1 L2)
      generalize xs.getD k 0 = mm at *
      have hm1 := Int.emod_nonneg mm (show (4 : Int) ≠ 0 by decide)
      have hm2 := Int.emod_lt_of_pos mm (show (0 : Int) < 4 by decide)
      have Hx : Hid ((mm % 4 = 0 ∧ reOf mm = 1 ∧ imOf mm = 0) ∨ (mm % 4 = 1 ∧ reOf mm = 0 ∧ imOf mm = 1) ∨ (mm % 4 = 2 ∧ reOf mm = -1 ∧ imOf mm = 0) ∨ (mm % 4 = 3 ∧ reOf mm = 0 ∧ imOf mm = -1)) := by
        unfold Hid reOf imOf; repeat (first | omega | split)
      clear hl hc hm1 hm2 L1 L2
      have key : ∀ (p q : Nat) (u v : Int) (W1 W2 : World), Dy p u 0 → Dy q v 0 → reOf mm = u → imOf mm = v → u.natAbs ≤ 1 → v.natAbs ≤ 1 → Dy (fres .add a p W1) (reTo xs (k + 1)) 0 ∧ Dy (fres .add b q W2) (imTo xs (k + 1)) 0 := by
        intro p q u v W1 W2 hp hq hu hv bu bv
        have := B.out
        exact ⟨(ha.out.radd hp (by omega) W1).cast (by rw [S1.out, hu]) rfl, (hb.out.radd hq (by omega) W2).cast (by rw [S2.out, hv]) rfl⟩
      have Key := Mm.hid key
      clear key
      rcases Hx.out with ⟨e, e1, e2⟩ | ⟨e, e1, e2⟩ | ⟨e, e1, e2⟩ | ⟨e, e1, e2⟩
      all_goals
        rw [e] at hx
        have E := Mm.hid (And.intro e1 e2)
        clear e e1 e2
        go_wp2
        go_roundw
        case rel =>
          first
            | exact ⟨k + 1, _, _, _, by omega, by go_num, rfl, (Key.out _ _ _ _ _ w one_bits Dy.zero E.out.1 E.out.2 (by decide) (by decide)).1, (Key.out _ _ _ _ w _ one_bits Dy.zero E.out.1 E.out.2 (by decide) (by decide)).2, rfl⟩
            | exact ⟨k + 1, _, _, _, by omega, by go_num, rfl, (Key.out _ _ _ _ _ w Dy.zero one_bits E.out.1 E.out.2 (by decide) (by decide)).1, (Key.out _ _ _ _ w _ Dy.zero one_bits E.out.1 E.out.2 (by decide) (by decide)).2, rfl⟩
            | exact ⟨k + 1, _, _, _, by omega, by go_num, rfl, (Key.out _ _ _ _ _ w minus_bits Dy.zero E.out.1 E.out.2 (by decide) (by decide)).1, (Key.out _ _ _ _ w _ minus_bits Dy.zero E.out.1 E.out.2 (by decide) (by decide)).2, rfl⟩
            | exact ⟨k + 1, _, _, _, by omega, by go_num, rfl, (Key.out _ _ _ _ _ w Dy.zero minus_bits E.out.1 E.out.2 (by decide) (by decide)).1, (Key.out _ _ _ _ w _ Dy.zero minus_bits E.out.1 E.out.2 (by decide) (by decide)).2, rfl⟩
        case measure => simp [intOf]; omega
    · have hkn : Hid (k = xs.length) := by have := H.out.1; unfold Hid; omega
      go_wp2
      go_ret
      exact ⟨_, _, rfl, Below.trans ((Below.refl _ w).alloc (Nat.le_refl _) _) ⟨rfl, rfl, rfl, Nat.le_refl _, fun _ _ => rfl⟩, by rw [← hkn.out]; exact ha.out, by rw [← hkn.out]; exact hb.out⟩
end Go.Proofs.Ytbhchnfdhdjfnaa

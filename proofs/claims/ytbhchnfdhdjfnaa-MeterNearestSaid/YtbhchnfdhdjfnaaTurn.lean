/- Walk: the law MeterTurn. -/
import Derived.Test.YtbhchnfdhdjfnaaCompassLaw
import Derived.Test.YtbhchnfdhdjfnaaSq
namespace Go.Proofs.Ytbhchnfdhdjfnaa
open Go.RowKit Go.Mm
def RE (xs : List Int) : Int := (xs.map reOf).sum
def IM (xs : List Int) : Int := (xs.map imOf).sum
theorem reTo_all (xs : List Int) : reTo xs xs.length = RE xs := by unfold reTo RE; rw [List.take_length]
theorem imTo_all (xs : List Int) : imTo xs xs.length = IM xs := by unfold imTo IM; rw [List.take_length]
theorem part_four (x : Int) : (x % 4 = 0 ∧ reOf x = 1 ∧ imOf x = 0) ∨ (x % 4 = 1 ∧ reOf x = 0 ∧ imOf x = 1) ∨ (x % 4 = 2 ∧ reOf x = -1 ∧ imOf x = 0) ∨ (x % 4 = 3 ∧ reOf x = 0 ∧ imOf x = -1) := by
  unfold reOf imOf; repeat (first | omega | split)
theorem wrap_mod (x : Int) : wrap64 x % 4 = x % 4 := by unfold wrap64; omega
theorem re_up (x : Int) : reOf (wrap64 (x + 1)) = -imOf x ∧ imOf (wrap64 (x + 1)) = reOf x := by
  have h := wrap_mod (x + 1)
  have h2 : (x + 1) % 4 = (x % 4 + 1) % 4 := by omega
  rw [h2] at h
  rcases part_four x with ⟨e, p, q⟩ | ⟨e, p, q⟩ | ⟨e, p, q⟩ | ⟨e, p, q⟩ <;> rw [e] at h <;> rw [p, q] <;> unfold reOf imOf <;> rw [h] <;> decide
theorem RE_up (xs : List Int) : RE (xs.map fun x => wrap64 (x + 1)) = -IM xs ∧ IM (xs.map fun x => wrap64 (x + 1)) = RE xs := by
  induction xs with
  | nil => exact ⟨rfl, rfl⟩
  | cons x xs ih =>
    obtain ⟨h1, h2⟩ := re_up x
    unfold RE IM at *
    simp only [List.map_cons, List.sum_cons, h1, h2]
    omega
theorem RE_four (xs : List Int) (x : Int) : RE (xs ++ [x, wrap64 (x + 1), wrap64 (x + 2), wrap64 (x + 3)]) = RE xs ∧ IM (xs ++ [x, wrap64 (x + 1), wrap64 (x + 2), wrap64 (x + 3)]) = IM xs := by
  have key : reOf x + (reOf (wrap64 (x + 1)) + (reOf (wrap64 (x + 2)) + (reOf (wrap64 (x + 3))))) = 0 ∧ imOf x + (imOf (wrap64 (x + 1)) + (imOf (wrap64 (x + 2)) + (imOf (wrap64 (x + 3))))) = 0 := by
    have h1 := wrap_mod (x + 1)
    have h2 := wrap_mod (x + 2)
    have h3 := wrap_mod (x + 3)
    have e1 : (x + 1) % 4 = (x % 4 + 1) % 4 := by omega
    have e2 : (x + 2) % 4 = (x % 4 + 2) % 4 := by omega
    have e3 : (x + 3) % 4 = (x % 4 + 3) % 4 := by omega
    rw [e1] at h1
    rw [e2] at h2
    rw [e3] at h3
    rcases part_four x with ⟨e, p, q⟩ | ⟨e, p, q⟩ | ⟨e, p, q⟩ | ⟨e, p, q⟩ <;> rw [e] at h1 h2 h3 <;> rw [p, q] <;> unfold reOf imOf <;> rw [h1, h2, h3] <;> decide
  unfold RE IM
  simp only [List.map_append, List.map_cons, List.map_nil, List.sum_append, List.sum_cons, List.sum_nil, Int.add_zero]
  omega
theorem RE_bound (xs : List Int) : (RE xs).natAbs + (IM xs).natAbs ≤ xs.length := by
  induction xs with
  | nil => simp [RE, IM]
  | cons x xs ih =>
    unfold RE IM at *
    simp only [List.map_cons, List.sum_cons, List.length_cons]
    rcases part_four x with ⟨e, p, q⟩ | ⟨e, p, q⟩ | ⟨e, p, q⟩ | ⟨e, p, q⟩ <;> rw [p, q] <;> omega
@[go_sem] theorem unary_neg_float (k : FloatKind) (b : Nat) : Op.unary .neg (.float k b) = pure (.float k (Op.negFloat k b)) := rfl
theorem xor_top (n r : Nat) (h : r < 2 ^ n) : r ^^^ 2 ^ n = 2 ^ n + r := by
  refine Nat.eq_of_testBit_eq fun i => ?_
  rw [Nat.testBit_xor, Nat.testBit_two_pow]
  rcases Nat.lt_trichotomy i n with h1 | h1 | h1
  · rw [Nat.testBit_two_pow_add_gt h1]
    have : decide (n = i) = false := by simp; omega
    rw [this]; simp
  · subst h1
    rw [Nat.testBit_two_pow_add_eq]
    simp
  · have e : 2 ^ (n + 1) ≤ 2 ^ i := Nat.pow_le_pow_right (by decide) h1
    rw [Nat.pow_succ] at e
    have : decide (n = i) = false := by simp; omega
    rw [Nat.testBit_lt_two_pow (show r < 2 ^ i by omega), Nat.testBit_lt_two_pow (show 2 ^ n + r < 2 ^ i by omega), this]
    rfl
/-- the sign turned -/
theorem Dy.neg {x : Nat} {k : Int} {j : Nat} (h : Dy x k j) : Dy (Op.negFloat .f64 x) (-k) j := by
  obtain ⟨hj, s, r, rfl, hr, e⟩ := h
  refine ⟨hj, !s, r, ?_, hr, by rw [Int.neg_mul, e, sgn_not]⟩
  have hlt : r < 2 ^ 63 := by
    have h1 := Ieee.double.infRung_lt
    have h2 : Ieee.double.signWeight = 2 ^ 63 := by decide
    omega
  have hs : Ieee.double.signWeight = 2 ^ 63 := by decide
  show (Ieee.double.word s r) ^^^ 2 ^ 63 = _
  unfold Ieee.Format.word
  rw [hs]
  cases s
  · simp only [Bool.false_eq_true, if_false, Bool.not_false, if_true]
    exact xor_top 63 r hlt
  · simp only [if_true, Bool.not_true, Bool.false_eq_true, if_false]
    rw [← xor_top 63 r hlt, Nat.xor_assoc, Nat.xor_self, Nat.xor_zero]
theorem Rd.boxn (w : World) (cs : Array Value) (e : TypeId) (m sz : Nat) (hs : cs.size = m * sz) : Rd (w.alloc (.cells cs e)) (some ⟨w.heap.size, 0, none⟩) m sz cs.toList := by
  refine ⟨by simp [hs], fun _ => ⟨_, rfl, by simp, fun j u hu => ?_⟩⟩
  rw [add_plain, cell_of_row (w.alloc (.cells cs e)) w.heap.size j cs e (0, 0) (heap_alloc_new w _)]
  simpa using hu
/-- two rows of the call's own are not one -/
def Apart (l m : Value) : Prop := ∀ b, l.ownBlock = some b → m.ownBlock ≠ some b
theorem Apart.symm {l m : Value} (h : Apart l m) : Apart m l := fun b h1 h2 => h b h2 h1
theorem Apart.other {l m : Value} (h : Apart l m) : m.ownBlock = none ∨ m.ownBlock ≠ l.ownBlock := by
  cases hm : m.ownBlock with
  | none => exact .inl rfl
  | some b => exact .inr fun e => h b e.symm hm
theorem Apart.step {w : World} {l m l' : Value} {base e sz n : Nat} {xs : List Value} (h : Apart l m) (hm : w.ownsRow base e sz m n xs) (h' : l'.ownBlock = l.ownBlock ∨ ∃ b, l'.ownBlock = some b ∧ w.heap.size ≤ b) : Apart l' m := by
  intro b h1 h2
  rcases h' with h' | ⟨c, h', hc⟩
  · exact h b (h' ▸ h1) h2
  · rw [h'] at h1
    cases h1
    have := (hm.lt _ h2).2
    omega
def ints (xs : List Int) : List Value := xs.map (.int .i64 ·)
theorem rdI_row {w : World} {base e n : Nat} {A : Option Addr} {c : Nat} {xs : List Int} (h : w.ownsRow base e 1 (.slice A n c) n (ints xs)) : RdI w A n xs := by
  refine rdI_of ?_
  have := Rd.of_own h
  rwa [show xs.flatMap fI = ints xs from flatMap_one _ xs]
theorem fres_some {op : BinOp} {x y r : Nat} (h : floatBits op .f64 x y = some r) (w : World) : fres op x y w = r := by unfold fres; rw [h]; rfl
theorem lean_fin (a b p q s : Nat) (w : World) (h1 : floatBits .mul .f64 a a = some p) (h2 : floatBits .mul .f64 b b = some q) (h3 : floatBits .add .f64 p q = some s) :
    Calls Try.prog 17 #[.complex .f64 a b] w fun e w' => e = .returned (.float .f64 s) ∧ ∃ n, w' = w.drewN n := by
  refine (lean_any a b w).mono ?_
  rintro e w' ⟨r, n, w1, w2, w3, rfl, rfl, hr⟩
  rw [fres_some h1, fres_some h2, fres_some h3] at hr
  exact ⟨by rw [hr], n, rfl⟩
theorem Dy.sq_abs {x y p q : Nat} {k l : Int} (hx : Dy x k 0) (hy : Dy y l 0) (hk : k.natAbs ≤ 2 ^ 50) (hkl : k.natAbs = l.natAbs) (h1 : floatBits .mul .f64 x x = some p) (h2 : floatBits .mul .f64 y y = some q) : p = q := by
  obtain ⟨p', e1, _, f1⟩ := hx.square hk
  obtain ⟨q', e2, _, f2⟩ := hy.square (hkl ▸ hk)
  rw [h1] at e1
  rw [h2] at e2
  cases e1; cases e2
  rw [f1, f2, hkl]
theorem order_eq_self {x : Nat} (h : (Ieee.double.read x).isNaN = false) : (FloatKind.f64.format.order x x == some .eq) = true := by
  have : FloatKind.f64.format.order x x = Ieee.double.order x x := rfl
  rw [this, order_self, h]; rfl
set_option maxHeartbeats 2000000 in
theorem law_turn (A : Option Addr) (n c : Nat) (xs : List Int) (at_ : Int) (w : World) (h : Sl w 1 8 fI gI A n c xs) (_hat : (Lit.int .i64 at_).wf = true) :
    Calls Try.prog 7 #[.slice A n c, .int .i64 at_] w fun e w' => e = .returned (.bool true) ∧ Below w.heap.size w w' := by
  have hn : n ≤ 17592186043904 := by have := h.room; omega
  have H := Mm.hid h
  have F0 := Mm.hid (rdI_of h.rd)
  clear h
  go_enter Try.func7, Try.ntmps7
  go_wp2
  go_loopw [5, 6, 7] (fun l m i wr => ∃ k : Nat, k ≤ n ∧ i = .int .i64 (k : Nat) ∧ Hid (wr.ownsRow w.heap.size 3 1 l k (ints ((xs.take k).map fun x => wrap64 (x + 1)))) ∧ Hid (wr.ownsRow w.heap.size 3 1 m k (ints (xs.take k))) ∧ Hid (Apart l m) ∧ Hid (Below w.heap.size w wr)) (fun _ _ i _ => n - (intOf i).toNat)
  case atStart => exact ⟨0, Nat.zero_le _, rfl, World.ownsRow_nil _ _ _ _, World.ownsRow_nil _ _ _ _, (fun b h => by cases h), Below.refl _ _⟩
  case round =>
    obtain ⟨k, hk, rfl, HL, HM, HA, HB⟩ := hrel
    by_cases hlt : k < n
    · obtain ⟨ad, hA, hl, hc⟩ := (F0.out.below HB.out).2 (by omega)
      subst hA
      have h1 := hc k hlt
      have HT1 : Hid (xs.take (k + 1) = xs.take k ++ [xs.getD k 0]) := by
        have := F0.out.1
        unfold Hid
        rw [List.take_succ_eq_append_getElem (by omega)]
        simp [List.getD_eq_getElem?_getD, List.getElem?_eq_getElem (show k < xs.length by omega)]
      have HC := Mm.hid hc
      clear hc hl
      generalize hx : xs.getD k 0 = x at *
      have HX := Mm.hid hx
      clear hx
      go_wp2_with (at_builtin; go_must (refine wp_app1 w.heap.size rfl _ _ 35 3 (.int .i64 0) 1 8 #[.int .i64 (wrap64 (x + 1))] rfl Try.underlying35 info3 rfl (by decide) (by decide) _ k _ rfl rfl rfl (by simp; rfl) HL.out HB.out HB.out.size (by omega) ?_))
      intro v1 w1 k1 k2 k3 k4
      have L1 := Mm.hid k1
      have B1 := Mm.hid k2
      have M1 := Mm.hid (HM.out.kept k3 HA.out.other)
      have A1 := Mm.hid (HA.out.step HM.out k4)
      have h1 : w1.cell? (ad.add k) = some (.int .i64 x) := by
        have := (F0.out.below k2).2 (by omega)
        obtain ⟨ad', e, _, hc⟩ := this
        cases e
        rw [← HX.out]; exact hc k hlt
      clear k1 k2 k3 k4
      go_wp2_with (at_builtin; refine wp_app1 w.heap.size rfl _ _ 35 3 (.int .i64 0) 1 8 #[.int .i64 x] rfl Try.underlying35 info3 rfl (by decide) (by decide) _ k _ rfl rfl rfl (by simp; rfl) M1.out B1.out B1.out.size (by omega) ?_)
      intro v2 w2 k1 k2 k3 k4
      have M2 := Mm.hid k1
      have B2 := Mm.hid k2
      have L2 := Mm.hid (L1.out.kept k3 A1.out.symm.other)
      have A2 := Mm.hid (A1.out.symm.step L1.out k4).symm
      clear k1 k2 k3 k4 L1 M1 B1 A1 HL HM HA HB
      go_wp2
      go_roundw
      case rel => exact ⟨k + 1, by omega, by go_num, by rw [HT1.out, List.map_append]; have := L2.out; unfold ints at *; exact Mm.hid (by simpa using this), by rw [HT1.out]; have := M2.out; unfold ints at *; exact Mm.hid (by simpa using this), A2, B2⟩
      case measure => simp [intOf]; omega
    · obtain rfl : k = n := by omega
      have hxl := F0.out.1
      have HT : Hid (xs.take k = xs) := by unfold Hid; rw [← hxl, List.take_length]
      clear hxl
      go_wp2_with (at_builtin; go_must (refine wp_app w.heap.size rfl _ _ 35 3 (.int .i64 0) 1 8 rfl Try.underlying35 info3 rfl (by decide) (by decide) _ k _ _ 4 4 _ rfl rfl (Rd.boxn wr _ 3 4 1 rfl) (by simp; exact ⟨rfl, rfl, rfl, rfl⟩) (HM.out.alloc _) (HB.out.alloc HB.out.size _) (by have := HB.out.size; simp; omega) (by omega) ?_))
      intro v1 w1 k1 k2 k3 k4
      have M1 : Hid (w1.ownsRow w.heap.size 3 1 v1 (k + 4) (ints (xs ++ [at_, wrap64 (at_ + 1), wrap64 (at_ + 2), wrap64 (at_ + 3)]))) := by
        have := k1; rw [HT.out] at this; unfold ints at *; exact Mm.hid (by simpa using this)
      have L1 : Hid (w1.ownsRow w.heap.size 3 1 u5 k (ints (xs.map fun x => wrap64 (x + 1)))) := by
        have := (HL.out.alloc _).kept k3 HA.out.symm.other
        rwa [HT.out] at this
      have B1 := Mm.hid k2
      clear k1 k2 k3 k4 HL HM HA HB
      have hv : ∃ A c, v1 = .slice A (k + 4) c := by
        rcases M1.out.2 with ⟨rfl, h0⟩ | ⟨g, cap, cur, rfl, _⟩
        · omega
        · exact ⟨_, cap, rfl⟩
      obtain ⟨A1, c1, rfl⟩ := hv
      have hv : ∃ A c, u5 = .slice A k c := by
        rcases L1.out.2 with ⟨rfl, h0⟩ | ⟨g, cap, cur, rfl, _⟩
        · exact ⟨none, 0, by rw [h0]⟩
        · exact ⟨_, cap, rfl⟩
      obtain ⟨A2, c2, rfl⟩ := hv
      have R0 := Mm.hid (F0.out.below B1.out)
      have R1 := Mm.hid (rdI_row L1.out)
      have R2 := Mm.hid (rdI_row M1.out)
      have NX := Mm.hid F0.out.1
      clear H F0 L1 M1
      go_wp2_with fail
      refine (compass_any _ _ _ xs _ R0.out (by omega)).mono ?_
      rintro e w2 ⟨ra, ia, rfl, hb2, da, db⟩
      have B2 := Mm.hid (B1.out.trans (hb2.mono B1.out.size))
      have DA := Mm.hid (And.intro da db)
      have R1' := Mm.hid (R1.out.below hb2)
      have R2' := Mm.hid (R2.out.below hb2)
      clear hb2 da db R0 R1 R2 B1
      go_wp2_with fail
      refine (compass_any _ _ _ _ _ R1'.out (by omega)).mono ?_
      rintro e w3 ⟨rb, ib, rfl, hb2, da, db⟩
      have B3 := Mm.hid (B2.out.trans (hb2.mono B2.out.size))
      have DB := Mm.hid (And.intro da db)
      have R2 := Mm.hid (R2'.out.below hb2)
      clear hb2 da db R1' R2' B2
      go_wp2_with fail
      refine (compass_any _ _ _ _ _ R2.out (by omega)).mono ?_
      rintro e w4 ⟨rc, ic, rfl, hb2, da, db⟩
      have B4 := Mm.hid (B3.out.trans (hb2.mono B3.out.size))
      have DC := Mm.hid (And.intro da db)
      clear hb2 da db R2 B3
      go_wp2_with fail
      have R3 : RdI (w4.alloc (.cells #[.int .i64 0] 3)) (some ⟨w4.heap.size, 0, none⟩) 1 [0] := rdI_of (Rd.box w4 #[.int .i64 0] 3 rfl)
      refine (compass_any _ _ _ [0] _ R3 (by omega)).mono ?_
      rintro e w5 ⟨r1, i1, rfl, hb2, da, db⟩
      have B5 := Mm.hid ((B4.out.alloc B4.out.size _).trans (hb2.mono (by have := B4.out.size; simp; omega)))
      obtain ⟨a1, a2⟩ := DA.out
      obtain ⟨b1, b2⟩ := DB.out
      obtain ⟨c1', c2'⟩ := DC.out
      rw [reTo_all] at a1 b1 c1' da
      rw [imTo_all] at a2 b2 c2' db
      rw [(RE_up xs).1] at b1
      rw [(RE_up xs).2] at b2
      rw [(RE_four xs at_).1] at c1'
      rw [(RE_four xs at_).2] at c2'
      have hbd := RE_bound xs
      rw [NX.out] at hbd
      have h50 : (2 : Nat) ^ 50 = 1125899906842624 := by decide
      have t1 := Dy.eq_true (da.cast (show RE [0] = 1 by decide) rfl) one_bits
      have t2 := Dy.eq_true (db.cast (show IM [0] = 0 by decide) rfl) Dy.zero
      have t3 := Dy.eq_true b1 a2.neg
      have t4 := Dy.eq_true b2 a1
      have t5 := Dy.eq_true a1 c1'
      have t6 := Dy.eq_true a2 c2'
      obtain ⟨p, q, s, r, e1, e2, e3, e4, t7⟩ := a1.lean a2 (Dy.ofInt (k : Int) (by omega)) hbd (by omega)
      obtain ⟨p', g1, _⟩ := b1.square (by omega)
      obtain ⟨q', g2, _⟩ := b2.square (by omega)
      obtain rfl : q = p' := Dy.sq_abs a2 b1 (by omega) (by omega) e2 g1
      obtain rfl : p = q' := Dy.sq_abs a1 b2 (by omega) rfl e1 g2
      have g3 : floatBits .add .f64 q p = some s := by
        have : floatBits .add .f64 q p = floatBits .add .f64 p q := add_comm' _ _ _
        rw [this]; exact e3
      have t8 := order_eq_self (canon_some (floatBits_canon e3)).2
      have t9 : ∀ W, fres .mul (floatOfInt .f64 (k : Int)) (floatOfInt .f64 (k : Int)) W = r := fun W => fres_some e4 W
      have E1 := Mm.hid (And.intro e1 (And.intro e2 e3))
      have E2 := Mm.hid (And.intro g1 (And.intro g2 g3))
      clear da db hb2 a1 a2 b1 b2 c1' c2' hbd h50 e1 e2 e3 e4 g1 g2 g3 R3 DA DB DC B4 NX HT
      go_wp2_with fail
      refine (lean_fin _ _ _ _ _ _ E1.out.1 E1.out.2.1 E1.out.2.2).mono ?_
      rintro e w6 ⟨rfl, n1, rfl⟩
      go_wp2_with fail
      refine (lean_fin _ _ _ _ _ _ E2.out.1 E2.out.2.1 E2.out.2.2).mono ?_
      rintro e w6 ⟨rfl, n2, rfl⟩
      go_wp2_with fail
      refine (lean_fin _ _ _ _ _ _ E1.out.1 E1.out.2.1 E1.out.2.2).mono ?_
      rintro e w6 ⟨rfl, n3, rfl⟩
      go_wp2_with fail
      go_ret
      exact ⟨rfl, B5.out.trans ⟨rfl, rfl, rfl, Nat.le_refl _, fun _ _ => rfl⟩⟩
end Go.Proofs.Ytbhchnfdhdjfnaa

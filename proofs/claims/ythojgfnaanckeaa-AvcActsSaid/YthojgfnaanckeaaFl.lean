/- Floats of 64 bits up to the choice of a NaN: what an operation gives is fixed but for which NaN it is. Plain lemmas, and the law by which a walk passes such an operation. -/
import Derived.Test.YthojgfnaanckeaaRows
import Derived.WalkKit
import Derived.WalkSpells
import Derived.WalkLawsBesides
import Derived.Laws.FloatArith
namespace Go.Proofs.Ythojgfnaanckeaa
open Go.RowKit

theorem hid {p : Prop} (h : p) : Hid p := h

/-- the bits, or nothing where they are a NaN -/
def canon (x : Nat) : Option Nat := if (Ieee.double.read x).isNaN then none else some x

theorem write_not_nan (neg : Bool) (rung : Nat) (h : rung ≤ Ieee.double.infRung) : (Ieee.double.read (Ieee.double.word neg rung)).isNaN = false := by
  have h1 : Ieee.double.infRung = 9218868437227405312 := by decide
  have h2 : Ieee.double.signWeight = 9223372036854775808 := by decide
  have h3 : Ieee.double.binade = 4503599627370496 := by decide
  rw [h1] at h
  unfold Ieee.Format.read Ieee.Format.word
  rw [h1, h2, h3]
  have e : (if neg = true then 9223372036854775808 + rung else rung) % 9223372036854775808 = rung := by split <;> omega
  simp only [e]
  split
  · rfl
  · split
    · rfl
    · split
      · rfl
      · omega

theorem canon_write_number (neg : Bool) (m : Nat) (p : Int) : canon (Ieee.double.write (.number neg m p)) = some (Ieee.double.write (.number neg m p)) := by
  unfold canon
  rw [if_neg]
  have : Ieee.double.write (.number neg m p) = Ieee.double.nearest neg m p := rfl
  rw [this]
  unfold Ieee.Format.nearest
  dsimp only
  split
  · rw [write_not_nan _ _ (Nat.zero_le _)]; exact Bool.noConfusion
  · rw [write_not_nan _ _ (Nat.min_le_right ..)]; exact Bool.noConfusion

theorem canon_write_inf (neg : Bool) : canon (Ieee.double.write (.infinity neg)) = some (Ieee.double.write (.infinity neg)) := by
  unfold canon
  rw [if_neg]
  have : Ieee.double.write (.infinity neg) = Ieee.double.word neg Ieee.double.infRung := rfl
  rw [this, write_not_nan _ _ (Nat.le_refl _)]; exact Bool.noConfusion

theorem canon_write {d : Ieee.Datum} (h : d.isNaN = false) : canon (Ieee.double.write d) = some (Ieee.double.write d) := by
  cases d with
  | number s m p => exact canon_write_number s m p
  | infinity s => exact canon_write_inf s
  | nan s t => cases h

theorem sum_not_nan {x y d : Ieee.Datum} (h : x.sum y = some d) : d.isNaN = false := by
  unfold Ieee.Datum.sum at h
  split at h <;> first | (cases h; done) | (cases h; rfl) | skip
  split at h <;> cases h; rfl

theorem product_not_nan {x y d : Ieee.Datum} (h : x.product y = some d) : d.isNaN = false := by
  unfold Ieee.Datum.product at h
  split at h <;> first | (cases h; done) | (cases h; rfl) | skip
  all_goals (split at h <;> cases h; rfl)

theorem quotient_not_nan {n : Nat} {x y d : Ieee.Datum} (h : x.quotient n y = some d) : d.isNaN = false := by
  unfold Ieee.Datum.quotient at h
  split at h <;> first | (cases h; done) | (cases h; rfl) | skip
  split at h
  · split at h
    · cases h
    · cases h; rfl
  · cases h; rfl

theorem map_write_canon {d : Option Ieee.Datum} {r : Nat} (hd : ∀ e, d = some e → e.isNaN = false) (h : d.map Ieee.double.write = some r) : canon r = some r := by
  cases d with
  | none => cases h
  | some d => cases h; exact canon_write (hd d rfl)

theorem floatBits_canon {op : BinOp} {x y r : Nat} (h : floatBits op .f64 x y = some r) : canon r = some r := by
  unfold floatBits at h
  split at h
  · exact map_write_canon (fun _ h => sum_not_nan h) h
  · exact map_write_canon (fun _ h => sum_not_nan h) h
  · exact map_write_canon (fun _ h => product_not_nan h) h
  · exact map_write_canon (fun _ h => quotient_not_nan h) h
  · cases h

theorem nanBits_nan (a : Nat) (n : Nat) (hn : n < 4503599627370495) : canon (a % 2 * 2 ^ 63 + 0x7ff0000000000000 + 1 + n) = none := by
  have h1 : Ieee.double.infRung = 9218868437227405312 := by decide
  have h2 : Ieee.double.signWeight = 9223372036854775808 := by decide
  have h3 : Ieee.double.binade = 4503599627370496 := by decide
  unfold canon Ieee.Format.read
  rw [h1, h2, h3]
  have e : (a % 2 * 2 ^ 63 + 0x7ff0000000000000 + 1 + n) % 9223372036854775808 = 0x7ff0000000000000 + 1 + n := by
    have := Nat.mod_lt a (show 0 < 2 by decide)
    generalize a % 2 = b at *
    omega
  simp only [e]
  have g1 : ¬ (0x7ff0000000000000 + 1 + n < 4503599627370496) := by omega
  have g2 : ¬ (0x7ff0000000000000 + 1 + n < 9218868437227405312) := by omega
  have g3 : ¬ (0x7ff0000000000000 + 1 + n = 9218868437227405312) := by omega
  simp only [g1, g2, g3, if_false]
  rfl

/-- AN OPERATION OF A WALK: some bits come, which are what the operation gives but for the choice of a NaN. -/
theorem run_float (P : Program) (w : World) (op : BinOp) (hop : op = .add ∨ op = .sub ∨ op = .mul ∨ op = .quo) (t : TypeId) (x y : Nat) :
    ∃ r n, (binOp op t (.float .f64 x) (.float .f64 y)).run P w = .ok (.float .f64 r) (w.drewN n) ∧ canon r = floatBits op .f64 x y := by
  cases hb : floatBits op .f64 x y with
  | some r => exact ⟨r, 0, by rw [run_float_arith w op t .f64 x y r hb]; rfl, floatBits_canon hb⟩
  | none =>
    refine ⟨Question.cut (.nanBits .f64 x y) (w.tape w.drawn (.nanBits .f64 x y)), 1, ?_, ?_⟩
    · rcases hop with rfl | rfl | rfl | rfl <;> (unfold floatBits at hb; simp only at hb; simp [binOp, Op.floatArith, hb, Question.forced]; rfl)
    · exact nanBits_nan _ _ (Nat.mod_lt _ (by decide))

/-- what comes, and how often the tape is asked -/
def fres (op : BinOp) (x y : Nat) (w : World) : Nat := (floatBits op .f64 x y).getD (Question.cut (.nanBits .f64 x y) (w.tape w.drawn (.nanBits .f64 x y)))
def fdn (op : BinOp) (x y : Nat) : Nat := if (floatBits op .f64 x y).isSome then 0 else 1

theorem canon_fres (op : BinOp) (x y : Nat) (w : World) : canon (fres op x y w) = floatBits op .f64 x y := by
  unfold fres
  cases h : floatBits op .f64 x y with
  | some r => exact floatBits_canon h
  | none => exact nanBits_nan _ _ (Nat.mod_lt _ (by decide))

theorem run_fres (P : Program) (w : World) (op : BinOp) (hop : op = .add ∨ op = .sub ∨ op = .mul ∨ op = .quo) (t : TypeId) (x y : Nat) :
    (binOp op t (.float .f64 x) (.float .f64 y)).run P w = .ok (.float .f64 (fres op x y w)) (w.drewN (fdn op x y)) := by
  unfold fres fdn
  cases hb : floatBits op .f64 x y with
  | some r => rw [run_float_arith w op t .f64 x y r hb]; rfl
  | none => rcases hop with rfl | rfl | rfl | rfl <;> (unfold floatBits at hb; simp only at hb; simp [binOp, Op.floatArith, hb, Question.forced]; rfl)
@[go_sem] theorem run_fadd (P : Program) (w : World) (t : TypeId) (x y : Nat) : (binOp .add t (.float .f64 x) (.float .f64 y)).run P w = .ok (.float .f64 (fres .add x y w)) (w.drewN (fdn .add x y)) := run_fres P w _ (.inl rfl) t x y
@[go_sem] theorem run_fsub (P : Program) (w : World) (t : TypeId) (x y : Nat) : (binOp .sub t (.float .f64 x) (.float .f64 y)).run P w = .ok (.float .f64 (fres .sub x y w)) (w.drewN (fdn .sub x y)) := run_fres P w _ (.inr (.inl rfl)) t x y
@[go_sem] theorem run_fmul (P : Program) (w : World) (t : TypeId) (x y : Nat) : (binOp .mul t (.float .f64 x) (.float .f64 y)).run P w = .ok (.float .f64 (fres .mul x y w)) (w.drewN (fdn .mul x y)) := run_fres P w _ (.inr (.inr (.inl rfl))) t x y
@[go_sem] theorem run_fquo (P : Program) (w : World) (t : TypeId) (x y : Nat) : (binOp .quo t (.float .f64 x) (.float .f64 y)).run P w = .ok (.float .f64 (fres .quo x y w)) (w.drewN (fdn .quo x y)) := run_fres P w _ (.inr (.inr (.inr rfl))) t x y

/-! ### two floats that are the same but for the choice of a NaN -/
def Sm (x y : Nat) : Prop := canon x = canon y
theorem canon_nan {x : Nat} (h : canon x = none) : (Ieee.double.read x).isNaN = true := by
  unfold canon at h
  split at h
  · assumption
  · cases h
theorem canon_some {x r : Nat} (h : canon x = some r) : x = r ∧ (Ieee.double.read x).isNaN = false := by
  unfold canon at h
  split at h
  · cases h
  · cases h; rename_i hn; exact ⟨rfl, by simpa using hn⟩
theorem Sm.cases_ {x y : Nat} (h : Sm x y) : x = y ∨ ((Ieee.double.read x).isNaN = true ∧ (Ieee.double.read y).isNaN = true) := by
  unfold Sm at h
  cases hx : canon x with
  | some r => exact .inl ((canon_some hx).1.trans (canon_some (h.symm.trans hx)).1.symm)
  | none => exact .inr ⟨canon_nan hx, canon_nan (h.symm.trans hx)⟩
theorem order_nan {x y : Nat} (h : (Ieee.double.read x).isNaN = true ∨ (Ieee.double.read y).isNaN = true) : Ieee.double.order x y = none := by
  unfold Ieee.Format.order
  generalize Ieee.double.read x = d at h
  generalize Ieee.double.read y = e at h
  cases d <;> cases e <;> simp_all [Ieee.Datum.isNaN, Ieee.Datum.order]
theorem bits_nan {op : BinOp} {x y : Nat} (h : (Ieee.double.read x).isNaN = true ∨ (Ieee.double.read y).isNaN = true) : floatBits op .f64 x y = none := by
  unfold floatBits
  have hf : FloatKind.f64.format = Ieee.double := rfl
  rw [hf]
  unfold Ieee.Format.add Ieee.Format.sub Ieee.Format.mul Ieee.Format.div
  generalize Ieee.double.read x = d at h
  generalize Ieee.double.read y = e at h
  cases op <;> cases d <;> cases e <;> simp_all [Ieee.Datum.isNaN, Ieee.Datum.sum, Ieee.Datum.product, Ieee.Datum.quotient, Ieee.Datum.opposite]
theorem Sm.bits {op : BinOp} {x x' y y' : Nat} (hx : Sm x x') (hy : Sm y y') : floatBits op .f64 x y = floatBits op .f64 x' y' := by
  rcases hx.cases_ with rfl | ⟨a, b⟩
  · rcases hy.cases_ with rfl | ⟨c, d⟩
    · rfl
    · rw [bits_nan (.inr c), bits_nan (.inr d)]
  · rw [bits_nan (.inl a), bits_nan (.inl b)]
theorem Sm.order {x x' y y' : Nat} (hx : Sm x x') (hy : Sm y y') : Ieee.double.order x y = Ieee.double.order x' y' := by
  rcases hx.cases_ with rfl | ⟨a, b⟩
  · rcases hy.cases_ with rfl | ⟨c, d⟩
    · rfl
    · rw [order_nan (.inr c), order_nan (.inr d)]
  · rw [order_nan (.inl a), order_nan (.inl b)]
theorem Sm.refl (x : Nat) : Sm x x := rfl
theorem Sm.symm {x y : Nat} (h : Sm x y) : Sm y x := Eq.symm h
theorem Sm.trans {x y z : Nat} (h : Sm x y) (k : Sm y z) : Sm x z := Eq.trans h k
/-- an operation on such is such -/
theorem Sm.fres {op : BinOp} {x x' y y' : Nat} (hx : Sm x x') (hy : Sm y y') (w w' : World) : Sm (fres op x y w) (fres op x' y' w') := by
  unfold Sm
  rw [canon_fres, canon_fres, hx.bits hy]
theorem order_self (x : Nat) : Ieee.double.order x x = if (Ieee.double.read x).isNaN then none else some .eq := by
  unfold Ieee.Format.order
  cases Ieee.double.read x with
  | nan s t => rfl
  | infinity s => cases s <;> rfl
  | number s m i =>
    have : compare (Ieee.signed s m (i - min i i).toNat) (Ieee.signed s m (i - min i i).toNat) = .eq := by
      simp [compare, compareOfLessAndEq]
    simp only [Ieee.Datum.order, this]; rfl
/-- what Same asks -/
theorem Sm.same {x y : Nat} (h : Sm x y) : (Ieee.double.order x y == some .eq || (Ieee.double.order x x != some .eq && Ieee.double.order y y != some .eq)) = true := by
  rcases h.cases_ with rfl | ⟨a, b⟩
  · rw [order_self]; cases (Ieee.double.read x).isNaN <;> rfl
  · rw [order_nan (.inl a), order_nan (x := x) (.inl a), order_nan (x := y) (.inl b)]; rfl
end Go.Proofs.Ythojgfnaanckeaa

/- A script of calls, opened; a place, counted round. -/
import Derived.Test.YtdfdicmbfgkekaaExact
namespace Go.Proofs.Ytdfdicmbfgkekaa
open Go.RowKit Go.Mm
structure Ox where
  kd : Int
  s : Int
  o : Int
  n : Int
def fO (x : Ox) : List Value := [.int .i64 x.kd, .int .i64 x.s, .int .i64 x.o, .int .i64 x.n]
def gO (x : Ox) : Prop := gI x.kd ∧ gI x.s ∧ gI x.o ∧ gI x.n
section
variable {H : Type} {enc : TypeId × Value → H} {w : World} {b0 : Nat} {spare : Nat → Bool} {held : Bool} {v : Value} {d : DataW H} {ps : List MemPlace} {ts : List TypeId} {ds : List (DataW H)} {j : Nat}
theorem trod_op {n : Nat} {cs : List Value} {x : DataW H × List MemPlace} (h : DataW.trod enc Try.prog w 0 spare held n 54 cs = some x) : ∃ y, fO y = cs ∧ gO y := by
  obtain ⟨xs, k, _, _, hl, hlen, hf⟩ := DataW.trod_struct Try.underlying54 h
  have hc : Try.prog.cellsOf 54 = 4 := by kernel_rfl
  have hc3 : Try.prog.cellsOf 3 = 1 := by kernel_rfl
  rw [hc] at hl
  match cs, hl, xs, hlen, hf with
  | [c0, c1, c2, c3], _, [x0, x1, x2, x3], _, hf =>
    have e0 := hf 0 _ rfl
    have e1 := hf 1 _ rfl
    have e2 := hf 2 _ rfl
    have e3 := hf 3 _ rfl
    obtain ⟨a, r0, _, w0⟩ := DataW.trod_int Try.underlying3 (show DataW.trod enc Try.prog w 0 spare held k 3 [c0] = some x0 from e0)
    obtain ⟨b, r1, _, w1⟩ := DataW.trod_int Try.underlying3 (show DataW.trod enc Try.prog w 0 spare held k 3 [c1] = some x1 from e1)
    obtain ⟨c, r2, _, w2⟩ := DataW.trod_int Try.underlying3 (show DataW.trod enc Try.prog w 0 spare held k 3 [c2] = some x2 from e2)
    obtain ⟨d, r3, _, w3⟩ := DataW.trod_int Try.underlying3 (show DataW.trod enc Try.prog w 0 spare held k 3 [c3] = some x3 from e3)
    simp only [List.cons.injEq, and_true] at r0 r1 r2 r3
    subst r0; subst r1; subst r2; subst r3
    exact ⟨⟨a, b, c, d⟩, rfl, w0, w1, w2, w3⟩
theorem open_ops (hval : Value.okWide Try.prog w .any b0 46 v) (hd : DataW.Trod enc Try.prog w 0 spare held 46 v d ps)
    (hz : (DataW.weightsEach Try.prog ts ds).all (· ≤ reachBytes) = true) (hj : ts[j]? = some 46) (hj' : ds[j]? = some d) :
    ∃ A n c xs, v = .slice A n c ∧ Sl w 4 32 fO gO A n c xs :=
  open_sl fO gO Try.underlying46 (by kernel_rfl) (by decide) (by kernel_rfl) (fun _ _ _ h => trod_op h) hval hd hz hj hj'
end
theorem fO_len (x : Ox) : (fO x).length = 4 := rfl
theorem add_field (a : Addr) (i j : Nat) (h : 0 < j) : a.add (i + j) = ⟨(a.add i).block, (a.add i).off + j, none⟩ := by
  unfold Addr.add
  rw [if_neg (by omega)]
  by_cases hi : i = 0 <;> simp [hi, Nat.add_assoc]
theorem rd_op {w : World} {A : Option Addr} {n i : Nat} {xs : List Ox} {x : Ox} (h : Rd w A n 4 (xs.flatMap fO)) (hx : xs[i]? = some x) (hn : xs.length = n) : ∃ ad, A = some ad ∧ ad.block < w.heap.size ∧ w.cell? (ad.add (i * 4)) = some (.int .i64 x.kd) ∧ w.cell? ⟨(ad.add (i * 4)).block, (ad.add (i * 4)).off + 1, none⟩ = some (.int .i64 x.s) ∧ w.cell? ⟨(ad.add (i * 4)).block, (ad.add (i * 4)).off + 2, none⟩ = some (.int .i64 x.o) ∧ w.cell? ⟨(ad.add (i * 4)).block, (ad.add (i * 4)).off + 3, none⟩ = some (.int .i64 x.n) := by
  have hi := (List.getElem?_eq_some_iff.1 hx).1
  obtain ⟨ad, rfl, hb, hc⟩ := h.2 (by omega)
  have key : ∀ j u, j < 4 → (fO x)[j]? = some u → w.cell? (ad.add (i * 4 + j)) = some u := fun j u hj hu => hc _ _ (by rw [flatMap_at fO_len hx hj]; exact hu)
  have kf : ∀ j u, 0 < j → j < 4 → (fO x)[j]? = some u → w.cell? ⟨(ad.add (i * 4)).block, (ad.add (i * 4)).off + j, none⟩ = some u := by
    intro j u h0 hj hu
    rw [← add_field _ _ j h0]; exact key j u hj hu
  exact ⟨ad, rfl, hb, key 0 _ (by decide) rfl, kf 1 _ (by decide) (by decide) rfl, kf 2 _ (by decide) (by decide) rfl, kf 3 _ (by decide) (by decide) rfl⟩
def PickEnds (n : Nat) (x : Int) (w : World) (e : Ending) (w' : World) : Prop := ∃ p : Nat, p < n ∧ e = .returned (.int .i64 (p : Int)) ∧ w = w' ∧ Hid ((p : Int) = x % (n : Int))
theorem tmod_emod (h n : Int) (hn : 0 < n) : (if h.tmod n < 0 then h.tmod n + n else h.tmod n) = h % n := by
  rw [Int.tmod_eq_emod]
  have := Int.emod_lt_of_pos h hn
  have := Int.emod_nonneg h (show n ≠ 0 by omega)
  have hna : (n.natAbs : Int) = n := by omega
  split <;> split <;> omega
theorem at_any (x : Int) (n : Nat) (w : World) (hn : 1 ≤ n) (hn' : n ≤ 4294967296) : Calls Try.prog 30 #[.int .i64 x, .int .i64 (n : Int)] w (PickEnds n x w) := by
  have hz : ((n : Int) == 0) = false := by rw [beq_eq_false_iff_ne]; omega
  have hr := Mm.hid (tmod_emod x n (by omega))
  have q1 := Int.emod_nonneg x (show (n : Int) ≠ 0 by omega)
  have q2 := Int.emod_lt_of_pos x (show (0 : Int) < n by omega)
  have fin : ∀ y : Int, y = x % (n : Int) → PickEnds n x w (.returned (.int .i64 y)) w := fun y hy =>
    ⟨(x % (n : Int)).toNat, by omega, by rw [hy, Int.toNat_of_nonneg q1], rfl, Int.toNat_of_nonneg q1⟩
  have FIN := Mm.hid fin
  clear fin
  have hb := Mm.hid (And.intro q1 q2)
  clear q1 q2
  by_cases h : x.tmod n < 0
  · have e1 : Hid (x.tmod n + n = x % (n : Int)) := by have := hr.out; rw [if_pos h] at this; exact this
    have b1 : x.tmod n + n ≤ 4294967296 := by have := e1.out; have := hb.out; omega
    have b2 : 0 ≤ x.tmod n + n := by have := e1.out; have := hb.out; omega
    go_enter Try.func30, Try.ntmps30
    go_wp2
    go_ret
    exact FIN.out _ e1.out
  · have e1 : Hid (x.tmod n = x % (n : Int)) := by have := hr.out; rw [if_neg h] at this; exact this
    go_enter Try.func30, Try.ntmps30
    go_wp2
    go_ret
    exact FIN.out _ e1.out
end Go.Proofs.Ytdfdicmbfgkekaa

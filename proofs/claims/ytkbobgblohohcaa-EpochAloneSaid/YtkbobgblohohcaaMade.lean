/- Walks: a memory of 1 to 64 words; a number out of any. -/
import Derived.Test.YtkbobgblohohcaaTrace
namespace Go.Proofs.Ytkbobgblohohcaa
open Go.RowKit Go.Mm Go.Cells
def PickEnds (n : Nat) (x : Int) (w : World) (e : Ending) (w' : World) : Prop := ∃ p : Nat, p < n ∧ e = .returned (.int .i64 (p : Int)) ∧ w = w' ∧ Hid ((p : Int) = x % (n : Int))
theorem tmod_emod (h n : Int) (hn : 0 < n) : (if h.tmod n < 0 then h.tmod n + n else h.tmod n) = h % n := by
  rw [Int.tmod_eq_emod]
  have := Int.emod_lt_of_pos h hn
  have := Int.emod_nonneg h (show n ≠ 0 by omega)
  have hna : (n.natAbs : Int) = n := by omega
  split <;> split <;> omega
theorem pick_any (x : Int) (n : Nat) (w : World) (hn : 1 ≤ n) (hn' : n ≤ 4294967296) : Calls Try.prog 23 #[.int .i64 x, .int .i64 (n : Int)] w (PickEnds n x w) := by
  have hz : ((n : Int) == 0) = false := by rw [beq_eq_false_iff_ne]; omega
  have hr := Mm.hid (tmod_emod x n (by omega))
  have q1 := Int.emod_nonneg x (show (n : Int) ≠ 0 by omega)
  have q2 := Int.emod_lt_of_pos x (show (0 : Int) < n by omega)
  have fin : ∀ y : Int, y = x % (n : Int) → PickEnds n x w (.returned (.int .i64 y)) w := fun y hy =>
    ⟨(x % (n : Int)).toNat, by omega, by rw [hy, Int.toNat_of_nonneg q1], rfl, Int.toNat_of_nonneg q1⟩
  have FIN := Mm.hid fin
  clear fin
  have hb := Mm.hid (And.intro q1 q2)
  clear q1 q2
  by_cases h : x.tmod n < 0
  · have e1 : Hid (x.tmod n + n = x % (n : Int)) := by have := hr.out; rw [if_pos h] at this; exact this
    have b1 : x.tmod n + n ≤ 4294967296 := by have := e1.out; have := hb.out; omega
    have b2 : 0 ≤ x.tmod n + n := by have := e1.out; have := hb.out; omega
    go_enter Try.func23, Try.ntmps23
    go_wp2
    go_ret
    exact FIN.out _ e1.out
  · have e1 : Hid (x.tmod n = x % (n : Int)) := by have := hr.out; rw [if_neg h] at this; exact this
    go_enter Try.func23, Try.ntmps23
    go_wp2
    go_ret
    exact FIN.out _ e1.out
/-- a memory just made, and tried -/
def Cm.made (n : Nat) : Cm := ⟨List.replicate n 0, [⟨2, (n : Int) - 1, 5, 0, true⟩, ⟨1, (n : Int) - 1, 5, 0, true⟩, ⟨2, (n : Int) - 1, 0, 5, true⟩], 0⟩
theorem made_is (n : Nat) (h : 1 ≤ n) : (Cm.new n).look ((n : Int) - 1) = (0, 0) ∧ ((Cm.new n).store ((n : Int) - 1) 5).look ((n : Int) - 1) = (5, 0) ∧ (((Cm.new n).store ((n : Int) - 1) 5).load ((n : Int) - 1)).look ((n : Int) - 1) = (5, 0) ∧
    ((((Cm.new n).store ((n : Int) - 1) 5).load ((n : Int) - 1)).store ((n : Int) - 1) 0) = Cm.made n := by
  obtain ⟨m, rfl⟩ : ∃ m, n = m + 1 := ⟨n - 1, by omega⟩
  have e : ((m + 1 : Nat) : Int) - 1 = (m : Int) := by omega
  rw [e]
  obtain ⟨a1, a2⟩ := look_good (S := Cm.new (m + 1)) (i := m) (x := 0) (by simp [Cm.new]) (by decide)
  have s1 : (Cm.new (m + 1)).store m 5 = ⟨(List.replicate (m + 1) 0).set m 5, [⟨2, m, 5, 0, true⟩], 0⟩ := by
    unfold Cm.store; rw [a2, a1]; simp [Cm.new]
  rw [s1]
  obtain ⟨b1, b2⟩ := look_good (S := ⟨(List.replicate (m + 1) 0).set m 5, [⟨2, m, 5, 0, true⟩], 0⟩) (i := m) (x := 5) (by simp) (by decide)
  have s2 : (⟨(List.replicate (m + 1) 0).set m 5, [⟨2, m, 5, 0, true⟩], 0⟩ : Cm).load m = ⟨(List.replicate (m + 1) 0).set m 5, [⟨2, m, 5, 0, true⟩, ⟨1, m, 5, 0, true⟩], 0⟩ := by
    unfold Cm.load; rw [b2, b1]; simp
  rw [s2]
  obtain ⟨c1, c2⟩ := look_good (S := ⟨(List.replicate (m + 1) 0).set m 5, [⟨2, m, 5, 0, true⟩, ⟨1, m, 5, 0, true⟩], 0⟩) (i := m) (x := 5) (by simp) (by decide)
  have s3 : (⟨(List.replicate (m + 1) 0).set m 5, [⟨2, m, 5, 0, true⟩, ⟨1, m, 5, 0, true⟩], 0⟩ : Cm).store m 0 = Cm.made (m + 1) := by
    unfold Cm.store; rw [c2, c1]
    have e2 : ((List.replicate (m + 1) (0 : Int)).set m 5).set m 0 = List.replicate (m + 1) 0 := by
      apply List.ext_getElem?
      intro j
      rw [List.set_set, List.getElem?_set]
      split
      · rename_i h; subst h; simp
      · rfl
    simp [Cm.made, e2]
  rw [s3]
  exact ⟨a1, b1, c1, rfl⟩
def MadeEnds (x : Int) (w : World) (e : Ending) (w' : World) : Prop := ∃ (g n : Nat) (F : Nat → Prop), 1 ≤ n ∧ n ≤ 64 ∧ e = .returned (.tuple #[.pointer (some ⟨g, 0, none⟩), .int .i64 (n : Int)]) ∧ Hid ((n : Int) = 1 + x % 64 ∧ MemB w.heap.size F w' g (Cm.made n) ∧ Below w.heap.size w w')
theorem Turns.below {base g B : Nat} {F : Nat → Prop} {w w' : World} {S : Cm} (h : Turns base F w g S w') (hF : ∀ k, F k → B ≤ k) (hB : B ≤ w.heap.size) : Below B w w' := by
  obtain ⟨F', _, _, h3⟩ := h.out
  exact h3.below hF hB
set_option maxHeartbeats 2000000 in
theorem made_any (x : Int) (w : World) : Calls Try.prog 22 #[.int .i64 x] w (MadeEnds x w) := by
  go_enter Try.func22, Try.ntmps22
  go_wp2_with fail
  refine (pick_any x 64 _ (by decide) (by decide)).mono ?_
  rintro e w0 ⟨p, hp, rfl, rfl, PX⟩
  have hp1 : ((1 : Int) + (p : Int)) = ((1 + p : Nat) : Int) := by omega
  have HP := Mm.hid hp1
  clear hp1
  have PE : Hid (((1 + p : Nat) : Int) = 1 + x % 64) := by show _ = _; have := PX.out; omega
  have hn1 : 1 ≤ 1 + p := by omega
  have hn2 : 1 + p ≤ 64 := by omega
  obtain ⟨q1, q2, q3, q4⟩ := made_is (1 + p) hn1
  have Q1 := Mm.hid q1
  have Q2 := Mm.hid q2
  have Q3 := Mm.hid q3
  have Q4 := Mm.hid q4
  clear q1 q2 q3 q4 PX
  go_wp2_with fail
  rw [HP.out]
  generalize 1 + p = n at *
  clear HP hp
  refine (new_good n _ hn1 (by omega)).mono ?_
  rintro e w1 ⟨g, rfl, N1⟩
  have LN1 : Hid ((Cm.new n).ws.length = n) := by show _ = _; simp [Cm.new]
  go_wp2_with fail
  refine (len_any w.heap.size g _ (Cm.new n) n _ N1.out.2.1 LN1.out).mono ?_
  rintro e w1' ⟨rfl, rfl⟩
  have hs1 : w.heap.size ≤ w1.heap.size := N1.out.2.2.size
  have t0 : Hid ((Cm.new n).tr.length = 0 ∧ (Cm.new n).bad = 0) := ⟨rfl, rfl⟩
  go_wp2_with fail
  refine (store_any w.heap.size g _ (Cm.new n) ((n : Int) - 1) _ 5 N1.out.2.1 hs1 (by rw [t0.out.2]; omega) (by rw [t0.out.1]; omega)).mono ?_
  rintro e w2 ⟨rfl, F2, M2, S2, R2⟩
  rw [Q1.out]
  have hs2 : w.heap.size ≤ w2.heap.size := Nat.le_trans hs1 R2.size
  have T2 := Mm.hid (And.intro M2 (N1.out.2.2.trans (R2.below (fun k hk => hk.1) hs1)))
  have t2 : Hid (((Cm.new n).store ((n : Int) - 1) 5).tr.length = 1 ∧ ((Cm.new n).store ((n : Int) - 1) 5).bad = 0) := ⟨rfl, by show Cm.looked _ _ = 0; unfold Cm.looked; rw [Q1.out]; rfl⟩
  clear M2 S2 R2 N1 LN1 t0
  go_wp2_with fail
  refine (load_any w.heap.size g F2 _ ((n : Int) - 1) _ T2.out.1 hs2 (by rw [t2.out.2]; omega) (by rw [t2.out.1]; omega)).mono ?_
  rintro e w3 ⟨rfl, F3, M3, S3, R3⟩
  rw [Q2.out]
  have hs3 : w.heap.size ≤ w3.heap.size := Nat.le_trans hs2 R3.size
  have T3 := Mm.hid (And.intro M3 (T2.out.2.trans (R3.below (fun k hk => (T2.out.1.lt k hk).1) hs2)))
  have t3 : Hid ((((Cm.new n).store ((n : Int) - 1) 5).load ((n : Int) - 1)).tr.length = 2 ∧ (((Cm.new n).store ((n : Int) - 1) 5).load ((n : Int) - 1)).bad = 0) := ⟨rfl, by show Cm.looked _ _ = 0; unfold Cm.looked; rw [Q2.out]; exact t2.out.2⟩
  clear M3 S3 R3
  go_wp2_with fail
  refine (store_any w.heap.size g F3 _ ((n : Int) - 1) _ 0 T3.out.1 hs3 (by rw [t3.out.2]; omega) (by rw [t3.out.1]; omega)).mono ?_
  rintro e w4 ⟨rfl, F4, M4, S4, R4⟩
  rw [Q3.out]
  rw [Q4.out] at M4
  have T4 := Mm.hid (And.intro M4 (T3.out.2.trans (R4.below (fun k hk => (T3.out.1.lt k hk).1) hs3)))
  clear M4 S4 R4
  go_wp2_with fail
  go_ret2
  exact ⟨g, n, F4, hn1, hn2, rfl, PE.out, T4.out.1, T4.out.2⟩
end Go.Proofs.Ytkbobgblohohcaa

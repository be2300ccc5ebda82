/- Walk: the law CellsNames. -/
import Derived.Test.YtkbobgblohohcaaMade
namespace Go.Proofs.Ytkbobgblohohcaa
open Go.RowKit Go.Mm Go.Cells
theorem look_of {S : Cm} {i : Nat} {x : Int} (h : S.ws[i]? = some x) (hp : x ≠ poison) : S.look i = (x, 0) ∧ S.looked i = S.bad := look_good h hp
theorem store_ws {S : Cm} {i : Nat} {x y : Int} (h : S.ws[i]? = some x) (hp : x ≠ poison) : (S.store i y).ws = S.ws.set i y ∧ (S.store i y).bad = S.bad ∧ (S.store i y).tr.length = S.tr.length + 1 := by
  obtain ⟨h1, h2⟩ := look_good h hp
  unfold Cm.store
  rw [h1, h2]
  simp
theorem set_get {l : List Int} {i : Nat} {x y : Int} (h : l[i]? = some x) : (l.set i y)[i]? = some y := by
  rw [List.getElem?_set_self (List.getElem?_eq_some_iff.1 h).1]
theorem new_lit (n : Nat) (w : World) (hn : (65536 : Int) = ((n + 1 : Nat) : Int)) : Calls Try.prog 19 #[.int .i64 65536] w (NewEnds (n + 1) w) := by
  rw [hn]; exact new_good (n + 1) w (by omega) (by omega)
theorem store_lit (base g : Nat) (F : Nat → Prop) (S : Cm) (n : Nat) (w : World) (y : Int) (hn : (65535 : Int) = (n : Int)) (h : MemB base F w g S) (hB : base ≤ w.heap.size) (hb : S.bad ≤ 4611686018427387904) (ht : (S.tr.length + 1) * 40 ≤ 140737488355328) :
    Calls Try.prog 20 #[.pointer (some ⟨g, 0, none⟩), .int .i64 65535, .int .i64 y] w (OpEnds base F g (S.store n y) (.int .i64 (S.look n).2) w) := by
  rw [hn]; exact store_any base g F S n w y h hB hb ht
theorem load_lit (base g : Nat) (F : Nat → Prop) (S : Cm) (n : Nat) (w : World) (hn : (65535 : Int) = (n : Int)) (h : MemB base F w g S) (hB : base ≤ w.heap.size) (hb : S.bad ≤ 4611686018427387904) (ht : (S.tr.length + 1) * 40 ≤ 140737488355328) :
    Calls Try.prog 21 #[.pointer (some ⟨g, 0, none⟩), .int .i64 65535] w (OpEnds base F g (S.load n) (.tuple #[.int .i64 (S.look n).1, .int .i64 (S.look n).2]) w) := by
  rw [hn]; exact load_any base g F S n w h hB hb ht
set_option maxRecDepth 100000 in
set_option maxHeartbeats 400000 in
theorem law_names (w : World) : Calls Try.prog 3 #[] w fun e w' => e = .returned (.bool true) ∧ Below w.heap.size w w' := by
  obtain ⟨n, hn⟩ : ∃ n : Nat, n = 65535 := ⟨_, rfl⟩
  have e1 : (65536 : Int) = ((n + 1 : Nat) : Int) := by omega
  have e2 : (65535 : Int) = (n : Int) := by omega
  have E1 := Mm.hid e1
  have E2 := Mm.hid e2
  have hn1 : n + 1 ≤ 65536 := by omega
  clear e1 e2 hn
  have x0 : Hid ((Cm.new (n + 1)).ws[n]? = some 0) := by show _ = _; simp [Cm.new]
  have s1 := store_ws (y := 9) x0.out (by decide)
  have x1 : Hid (((Cm.new (n + 1)).store n 9).ws[n]? = some 9) := by show _ = _; rw [s1.1]; exact set_get x0.out
  have l0 := Mm.hid (look_good x0.out (by decide)).1
  have l1 := Mm.hid (look_good x1.out (by decide)).1
  have S1 := Mm.hid s1
  clear s1
  go_enter Try.func3, Try.ntmps3
  go_wp2_with fail
  refine (new_lit n _ E1.out).mono ?_
  rintro e w1 ⟨g, rfl, N1⟩
  have hs1 : w.heap.size ≤ w1.heap.size := N1.out.2.2.size
  have t0 : Hid ((Cm.new (n + 1)).tr.length = 0 ∧ (Cm.new (n + 1)).bad = 0) := ⟨rfl, rfl⟩
  go_wp2_with fail
  refine (store_lit w.heap.size g _ _ n _ 9 E2.out N1.out.2.1 hs1 (by rw [t0.out.2]; omega) (by rw [t0.out.1]; omega)).mono ?_
  rintro e w2 ⟨rfl, F2, M2, S2, R2⟩
  rw [l0.out]
  have hs2 : w.heap.size ≤ w2.heap.size := Nat.le_trans hs1 R2.size
  have T2 := Mm.hid (And.intro M2 (N1.out.2.2.trans (R2.below (fun k hk => hk.1) hs1)))
  clear M2 S2 R2 N1
  go_wp2_with fail
  refine (load_lit w.heap.size g F2 _ n _ E2.out T2.out.1 hs2 (by rw [S1.out.2.1, t0.out.2]; omega) (by rw [S1.out.2.2, t0.out.1]; omega)).mono ?_
  rintro e w3 ⟨rfl, F3, M3, S3, R3⟩
  rw [l1.out]
  have T3 := Mm.hid (T2.out.2.trans (R3.below (fun k hk => (T2.out.1.lt k hk).1) hs2))
  clear M3 S3 R3
  go_wp2_with fail
  refine (new_bad 65537 _ (.inr (by decide))).mono ?_
  rintro e w4 ⟨rfl, rfl⟩
  go_wp2_with fail
  go_ret
  exact ⟨rfl, T3.out⟩
end Go.Proofs.Ytkbobgblohohcaa

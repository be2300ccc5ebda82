/- Walks: the trace told; a new memory. -/
import Derived.Test.YtkbobgblohohcaaWords
import Derived.WalkSpells
namespace Go.Proofs.Ytkbobgblohohcaa
open Go.RowKit Go.Mm Go.Cells
theorem own_made {W : World} {base e n sz : Nat} {xs : List Value} (hb : base ≤ W.heap.size) (hl : xs.length = n * sz) (hn : n ≤ maxLen) : (W.alloc (.cells xs.toArray e)).ownsRow base e sz (.slice (some ⟨W.heap.size, 0, none⟩) n n) n xs :=
  ⟨hl, .inr ⟨_, _, _, rfl, hb, heap_alloc_new W _, Nat.le_refl _, hn, by simp [hl], by rw [← hl]; simp⟩⟩
def TraceEnds (w : World) (l : List Acc) (e : Ending) (w' : World) : Prop := ∃ A m cp, e = .returned (.slice A m cp) ∧ m ≤ cp ∧ Hid (l.length = m ∧ w'.ownsRow w.heap.size 47 5 (.slice A m cp) m (l.flatMap fAcc) ∧ Below w.heap.size w w')
theorem acc_one (l : List Acc) : ∀ u ∈ l.flatMap fAcc, u.oneCell' = true := by
  intro u hu
  obtain ⟨x, _, hx⟩ := List.mem_flatMap.1 hu
  simp only [fAcc, List.mem_cons, List.not_mem_nil, or_false] at hx
  rcases hx with rfl | rfl | rfl | rfl | rfl <;> rfl
theorem clone_any (A : Option Addr) (n c : Nat) (xs : List Acc) (w : World) (h : Rd w A n 5 (xs.flatMap fAcc)) (hl : xs.length = n) (hn : n * 40 ≤ 140737488355328) : 
    Calls Try.prog 75 #[.slice A n c] w (TraceEnds w xs) := by
  have R := Mm.hid h
  have L := Mm.hid hl
  clear h hl
  rcases A with _ | ad
  · have h0 : n = 0 := by
      rcases Nat.eq_zero_or_pos n with h | h
      · exact h
      · obtain ⟨_, h, _⟩ := R.out.2 h; cases h
    subst h0
    obtain rfl : xs = [] := List.eq_nil_of_length_eq_zero L.out
    have e1 := fun w : World => Lib.run_eql_slice_nil (P := Try.prog) w 41 47 none 0 c 0 0 Try.underlying41
    go_enter Try.func75, Try.ntmps75
    go_wp2
    go_ret
    exact ⟨none, 0, 0, rfl, Nat.le_refl _, rfl, ⟨by simp, .inl ⟨rfl, rfl⟩⟩, Below.refl _ _⟩
  · have e1 := fun w : World => Lib.run_eql_slice_nil (P := Try.prog) w 41 47 (some ad) n c 0 0 Try.underlying41
    have O0 : Hid ((w.alloc (.cells #[] 47)).ownsRow w.heap.size 47 5 (.slice (some ⟨w.heap.size, 0, none⟩) 0 0) 0 []) := own_made (Nat.le_refl _) rfl (by decide)
    have R1 := Mm.hid (R.out.alloc (.cells #[] 47))
    have B0 := Mm.hid ((Below.refl w.heap.size w).alloc (Nat.le_refl _) (.cells #[] 47))
    go_enter Try.func75, Try.ntmps75
    go_wp2_with (at_builtin; go_must (refine wp_ape w.heap.size rfl _ _ 41 47 (.agg #[.int .i8 0, .int .i64 0, .int .i64 0, .int .i64 0, .bool false]) 5 40 rfl Try.underlying41 info47 rfl (by decide) (by decide) (.slice (some ⟨w.heap.size, 0, none⟩) 0 0) 0 [] (some ad) n c (xs.flatMap fAcc) rfl rfl (by exact R1.out) (acc_one xs) (by exact O0.out) B0.out (by simp) (by omega) ?_))
    intro v1 w1 k1 k2 k3 k4
    obtain ⟨A1, c1, rfl, hc1, _, _⟩ := own_slice k1
    have K := Mm.hid (And.intro k1 k2)
    clear k1 k2 k3 k4
    go_wp2
    go_ret
    exact ⟨_, _, _, rfl, hc1, L.out, K.out.1, K.out.2⟩
theorem trace_any (base g : Nat) (F : Nat → Prop) (S : Cm) (w : World) (h : MemB base F w g S) (hn : S.tr.length * 40 ≤ 140737488355328) :
    Calls Try.prog 27 #[.pointer (some ⟨g, 0, none⟩)] w (TraceEnds w S.tr) := by
  obtain ⟨vW, vT, h1, h2, h3, h4, h5⟩ := h.out
  obtain ⟨m, hm⟩ : ∃ m, S.tr.length = m := ⟨_, rfl⟩
  rw [hm] at h3 hn
  obtain ⟨A, c, rfl, hc, _, hR⟩ := own_slice h3
  have R := Mm.hid hR
  have M := Mm.hid hm
  have c1 : w.cell? ⟨g, 1, none⟩ = some (.slice A m c) := h1.cell 1
  clear h h1 h2 h3 h4 h5 hR hm
  go_enter Try.func27, Try.ntmps27
  go_wp2_with fail
  refine (clone_any A m c S.tr _ R.out M.out hn).mono ?_
  rintro e w1 ⟨A1, m1, c1', rfl, h1, O⟩
  go_wp2
  go_ret
  exact ⟨A1, m1, c1', rfl, h1, O⟩
/-- a new memory -/
def Cm.new (n : Nat) : Cm := ⟨List.replicate n 0, [], 0⟩
def NewEnds (n : Nat) (w : World) (e : Ending) (w' : World) : Prop := ∃ g, e = .returned (.tuple #[.pointer (some ⟨g, 0, none⟩), .int .i64 0]) ∧ Hid (w.heap.size ≤ g ∧ MemB w.heap.size (fun k => w.heap.size ≤ k ∧ k < w'.heap.size) w' g (Cm.new n) ∧ Below w.heap.size w w')
set_option maxRecDepth 100000 in
set_option maxHeartbeats 1000000 in
theorem new_good (n : Nat) (w : World) (h1 : 1 ≤ n) (h2 : n ≤ 65536) : Calls Try.prog 19 #[.int .i64 (n : Int)] w (NewEnds n w) := by
  have hmk := run_make_flat (P := Try.prog) (fun x : Int => [Value.int .i64 x]) 0 Try.underlying30 info3 rfl (by decide) rfl n (by omega) (by omega) w
  rw [iL_flat] at hmk
  have O0 : Hid ((w.alloc (.cells (iL (List.replicate n 0)).toArray 3)).ownsRow w.heap.size 3 1 (.slice (some ⟨w.heap.size, 0, none⟩) n n) n (iL (List.replicate n 0))) :=
    own_made (Nat.le_refl _) (by rw [iL_len]; simp) (by simp only [maxLen]; omega)
  have B0 := Mm.hid ((Below.refl w.heap.size w).alloc (Nat.le_refl _) (.cells (iL (List.replicate n 0)).toArray 3))
  generalize hcs : (iL (List.replicate n 0)).toArray = cs at *
  clear hcs
  go_enter Try.func19, Try.ntmps19
  go_wp2
  go_ret2
  have hs : (w.alloc (.cells cs 3)).heap.size = w.heap.size + 1 := by simp
  have hb := Blk.new (w.alloc (.cells cs 3)) #[.slice (some ⟨w.heap.size, 0, none⟩) n n, .slice none 0 0, .int .i64 0] 131
  rw [hs] at hb
  refine ⟨w.heap.size + 1, by simp, by omega, ⟨⟨_, _, hb, ?_, ⟨by simp [Cm.new], .inl ⟨rfl, rfl⟩⟩, fun b e => ?_, fun b e => by cases e⟩, ⟨by omega, by simp⟩, fun k hk => hk, by simpa [Cm.new] using h2⟩, B0.out.alloc (by simp) _⟩
  · have := O0.out.alloc (.cells #[.slice (some ⟨w.heap.size, 0, none⟩) n n, .slice none 0 0, .int .i64 0] 131)
    simpa [Cm.new] using this
  · have : w.heap.size = b := by simpa [Value.ownBlock] using e
    subst this
    exact ⟨Nat.le_refl _, by simp; omega⟩
set_option maxRecDepth 100000 in
theorem new_bad (n : Int) (w : World) (h : n < 1 ∨ 65536 < n) : Calls Try.prog 19 #[.int .i64 n] w fun e w' => e = .returned (.tuple #[.pointer none, .int .i64 3]) ∧ w = w' := by
  rcases h with h | h
  · go_enter Try.func19, Try.ntmps19
    go_wp2
    go_ret2
    exact ⟨rfl, rfl⟩
  · have h' : ¬ n < 1 := by omega
    go_enter Try.func19, Try.ntmps19
    go_wp2
    go_ret2
    exact ⟨rfl, rfl⟩
end Go.Proofs.Ytkbobgblohohcaa

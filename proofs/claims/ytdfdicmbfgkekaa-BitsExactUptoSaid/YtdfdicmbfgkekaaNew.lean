/- Walks: a new set; how many it has; a word, and what of it the room reaches. -/
import Derived.Test.YtdfdicmbfgkekaaSet
import Derived.Laws.Bits128
namespace Go.Proofs.Ytdfdicmbfgkekaa
open Go.RowKit Go.Mm Go.Bs
def none0 : Nat → Bool := fun _ => false
def roomOf (n : Int) : Nat := min n.toNat 65536
theorem word_none (k : Nat) : word none0 k = 0 := by
  refine Nat.eq_of_testBit_eq fun j => ?_
  by_cases hj : j < 64
  · rw [word_bit _ _ _ hj]; simp [none0]
  · rw [high_bit (word_lt _ _) (by omega)]; simp
theorem wcells_none (n : Nat) : ((List.replicate n ()).flatMap (fun _ => [Value.int .u64 0])).toArray = wcells none0 n := by
  unfold wcells
  congr 1
  apply List.ext_getElem?
  intro j
  rw [flatMap_one]
  by_cases hj : j < n
  · simp [hj, wv, word_none]
  · simp [hj]
theorem run_words (n : Nat) (hn : n ≤ 1024) (w : World) : (Instr.makeSlice 68 (.int .i64 (n : Int)) (.int .i64 (n : Int))).run Try.prog w = .ok (.slice (some ⟨w.heap.size, 0, none⟩) n n) (w.alloc (.cells (wcells none0 n) 63)) := by
  rw [run_make_flat (P := Try.prog) (fun _ : Unit => [Value.int .u64 0]) () Try.underlying68 info63 rfl (by decide) rfl n (by omega) (by omega) w, wcells_none]
def NewEnds (r : Nat) (w : World) (e : Ending) (w' : World) : Prop := ∃ a g : Nat, e = .returned (.pointer (some ⟨a, 0, none⟩)) ∧ Hid (SetB w' a g r none0 ∧ Below w.heap.size w w' ∧ w.heap.size ≤ a ∧ w.heap.size ≤ g)
theorem new_ends (r : Nat) (hr : r ≤ 65536) (w : World) : NewEnds r w (.returned (.pointer (some ⟨w.heap.size + 1, 0, none⟩))) ((w.alloc (.cells (wcells none0 (nw r)) 63)).alloc (.cells #[.int .i64 (r : Int), .slice (some ⟨w.heap.size, 0, none⟩) (nw r) (nw r)] 70)) := by
  refine ⟨_, w.heap.size, rfl, ⟨?_, ?_, hr, fun _ _ => rfl⟩, ((Below.refl _ _).alloc (Nat.le_refl _) _).alloc (by simp) _, by omega, Nat.le_refl _⟩
  · have := Blk.new (w.alloc (.cells (wcells none0 (nw r)) 63)) #[.int .i64 (r : Int), .slice (some ⟨w.heap.size, 0, none⟩) (nw r) (nw r)] 70
    rwa [show (w.alloc (.cells (wcells none0 (nw r)) 63)).heap.size = w.heap.size + 1 from by simp] at this
  · exact (Blk.new w (wcells none0 (nw r)) 63).keep (Below.heap_alloc _ _ _ (by simp))
theorem new_any (n : Int) (w : World) (hn : n ≤ 9223372036854775807) (hn' : -9223372036854775808 ≤ n) : Calls Try.prog 28 #[.int .i64 n] w (NewEnds (roomOf n) w) := by
  by_cases h0 : n ≤ 0
  · have hr : roomOf n = 0 := by unfold roomOf; omega
    rw [hr]
    have FIN := Mm.hid (new_ends 0 (by decide) w)
    have hmk : ∀ w, (Instr.makeSlice 68 (.int .i64 0) (.int .i64 0)).run Try.prog w = .ok (.slice (some ⟨w.heap.size, 0, none⟩) 0 0) (w.alloc (.cells (wcells none0 0) 63)) := run_words 0 (by decide)
    clear hr
    by_cases h1 : n = 0
    · subst h1
      go_enter Try.func28, Try.ntmps28
      go_wp2
      go_ret
      exact FIN.out
    · have h2 : n < 0 := by omega
      go_enter Try.func28, Try.ntmps28
      go_wp2
      go_ret
      exact FIN.out
  · obtain ⟨k, rfl⟩ := Int.eq_ofNat_of_zero_le (show 0 ≤ n by omega)
    by_cases h1 : k ≤ 65536
    · have hr : roomOf k = k := by unfold roomOf; omega
      rw [hr]
      have FIN := Mm.hid (new_ends k h1 w)
      have hmk : ∀ w, (Instr.makeSlice 68 (.int .i64 (((k : Int) + 255) / 256 * 4)) (.int .i64 (((k : Int) + 255) / 256 * 4))).run Try.prog w = .ok (.slice (some ⟨w.heap.size, 0, none⟩) (nw k) (nw k)) (w.alloc (.cells (wcells none0 (nw k)) 63)) := by
        intro w
        have := run_words (nw k) (nw_le k h1) w
        rwa [show ((nw k : Nat) : Int) = (((k : Int) + 255) / 256 * 4) from by unfold nw; omega] at this
      have hk : (k : Int) ≤ 65536 := by omega
      have hk0 : (0 : Int) < (k : Int) := by omega
      clear hr h0
      go_enter Try.func28, Try.ntmps28
      go_wp2
      go_ret
      exact FIN.out
    · have hr : roomOf k = 65536 := by unfold roomOf; omega
      rw [hr]
      have FIN := Mm.hid (new_ends 65536 (by decide) w)
      have hmk : ∀ w, (Instr.makeSlice 68 (.int .i64 1024) (.int .i64 1024)).run Try.prog w = .ok (.slice (some ⟨w.heap.size, 0, none⟩) 1024 1024) (w.alloc (.cells (wcells none0 1024) 63)) := run_words 1024 (by decide)
      have hk : (65536 : Int) < (k : Int) := by omega
      clear hr h0
      go_enter Try.func28, Try.ntmps28
      go_wp2
      go_ret
      exact FIN.out
/-! ### how many bits a word has -/
theorem u64_nat (a : Nat) (h : a < 18446744073709551616) : IntKind.u64.wrap (a : Int) = (a : Int) := by rw [IntKind.wrap_u64]; omega
theorem sum_u64 (a b c : Nat) (h : a + b = c) (hc : c < 18446744073709551616) : IntKind.u64.wrap ((a : Int) + (b : Int)) = (c : Int) := by rw [IntKind.wrap_u64]; omega
theorem and_u64c (a m : Nat) (ha : a < 18446744073709551616) (hm : m < 18446744073709551616) : bits .and .u64 (a : Int) (m : Int) = ((a &&& m : Nat) : Int) := u64_and_nat a m ha hm
theorem ltd (x k : Nat) (h : x < 18446744073709551616) : x / k < 18446744073709551616 := Nat.lt_of_le_of_lt (Nat.div_le_self _ _) h
theorem lt63 (x : Nat) (h : x < 9223372036854775808) : x < 18446744073709551616 := by omega
theorem lt63s (z : Nat) (h : z < 9223372036854775808) : z / 16 + z < 18446744073709551616 := by omega
theorem w64_nat (t : Nat) (h : t < 9223372036854775808) : wrap64 (t : Int) = (t : Int) := by unfold wrap64; omega
theorem md128 (t : Nat) : (t : Int) % 128 = ((t % 128 : Nat) : Int) := by omega
set_option maxRecDepth 100000 in
theorem ones_any (x : Nat) (hx : x < 18446744073709551616) (w : World) : Calls Try.prog 38 #[.int .u64 (x : Int)] w fun e w' => e = .returned (.int .i64 (cnt x.testBit 64 : Nat)) ∧ w = w' := by
  obtain ⟨A, hA⟩ : ∃ A, A = x / 2 &&& 6148914691236517205 := ⟨_, rfl⟩
  obtain ⟨B, hB⟩ : ∃ A, A = x &&& 6148914691236517205 := ⟨_, rfl⟩
  obtain ⟨y, hy⟩ : ∃ y, y = A + B := ⟨_, rfl⟩
  obtain ⟨C, hC⟩ : ∃ A, A = y / 4 &&& 3689348814741910323 := ⟨_, rfl⟩
  obtain ⟨D, hD⟩ : ∃ A, A = y &&& 3689348814741910323 := ⟨_, rfl⟩
  obtain ⟨z, hz⟩ : ∃ z, z = C + D := ⟨_, rfl⟩
  obtain ⟨G, hG⟩ : ∃ z', z' = z / 16 + z := ⟨_, rfl⟩
  obtain ⟨u, hu⟩ : ∃ u, u = G &&& 1085102592571150095 := ⟨_, rfl⟩
  obtain ⟨v, hv⟩ : ∃ v, v = u + u / 256 := ⟨_, rfl⟩
  obtain ⟨q, hq⟩ : ∃ v', v' = v + v / 65536 := ⟨_, rfl⟩
  obtain ⟨t, ht⟩ : ∃ t, t = q + q / 4294967296 := ⟨_, rfl⟩
  obtain ⟨c0, c1, c2, c3, c4, c5, c6, c7, k0, k1, k2, k3, k4, k5, k6, k7, hu2, hcnt, ly, lz⟩ := fields x hx y z u (by rw [hy, hA, hB]) (by rw [hz, hC, hD]) (by rw [hu, hG])
  obtain ⟨htm, lt, lv, lq⟩ := fold_fields c0 c1 c2 c3 c4 c5 c6 c7 u v q t k0 k1 k2 k3 k4 k5 k6 k7 hu2 hv hq ht
  have lG : G < 18446744073709551616 := by rw [hG]; exact lt63s z lz
  have lu : u < 18446744073709551616 := by rw [hu]; exact and_lt lG
  have e1 : bits .and .u64 ((x : Int) / 2) 6148914691236517205 = (A : Int) := by
    have := and_u64c (x / 2) 6148914691236517205 (ltd _ _ hx) (by decide)
    rw [hA]; simpa using this
  have e2 : bits .and .u64 (x : Int) 6148914691236517205 = (B : Int) := by
    have := and_u64c x 6148914691236517205 hx (by decide)
    rw [hB]; simpa using this
  have e3 : IntKind.u64.wrap ((A : Int) + (B : Int)) = (y : Int) := sum_u64 A B y hy.symm ly
  have e4 : bits .and .u64 ((y : Int) / 4) 3689348814741910323 = (C : Int) := by
    have := and_u64c (y / 4) 3689348814741910323 (ltd _ _ ly) (by decide)
    rw [hC]; simpa using this
  have e5 : bits .and .u64 (y : Int) 3689348814741910323 = (D : Int) := by
    have := and_u64c y 3689348814741910323 ly (by decide)
    rw [hD]; simpa using this
  have e6 : IntKind.u64.wrap ((C : Int) + (D : Int)) = (z : Int) := sum_u64 C D z hz.symm (lt63 _ lz)
  have e7 : IntKind.u64.wrap ((z : Int) / 16 + (z : Int)) = (G : Int) := by
    have := sum_u64 (z / 16) z G hG.symm lG
    simpa using this
  have e8 : bits .and .u64 (G : Int) 1085102592571150095 = (u : Int) := by
    have := and_u64c G 1085102592571150095 lG (by decide)
    rw [hu]; simpa using this
  have e9 : IntKind.u64.wrap ((u : Int) + (u : Int) / 256) = (v : Int) := by
    have := sum_u64 u (u / 256) v hv.symm (lt63 _ lv)
    simpa using this
  have e10 : IntKind.u64.wrap ((v : Int) + (v : Int) / 65536) = (q : Int) := by
    have := sum_u64 v (v / 65536) q hq.symm (lt63 _ lq)
    simpa using this
  have e11 : IntKind.u64.wrap ((q : Int) + (q : Int) / 4294967296) = (t : Int) := by
    have := sum_u64 q (q / 4294967296) t ht.symm (lt63 _ lt)
    simpa using this
  have e12 : wrap64 (t : Int) = (t : Int) := w64_nat t lt
  have e13 : bits .and .i64 (t : Int) 127 = ((cnt x.testBit 64 : Nat) : Int) := by
    rw [i64_and127, hcnt, ← htm]; exact md128 t
  clear hA hB hy hC hD hz hG hu hv hq ht hu2 hcnt ly lz htm lt lv lq lG lu k0 k1 k2 k3 k4 k5 k6 k7
  go_enter Try.func38, Try.ntmps38
  go_wp2
  go_ret
  exact ⟨rfl, rfl⟩
end Go.Proofs.Ytdfdicmbfgkekaa

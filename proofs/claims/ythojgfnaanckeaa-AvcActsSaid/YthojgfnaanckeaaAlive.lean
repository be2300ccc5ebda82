/- Walks: Ratio; a small cache lives; the law AvcNames. -/
import Derived.Test.YthojgfnaanckeaaModel
import Derived.Test.YthojgfnaanckeaaDya
namespace Go.Proofs.Ythojgfnaanckeaa
open Go.RowKit Go.Mm
theorem ratio_some {b n : Nat} {S : St} (w : World) (r : Nat) (h : CacheB w b n S) (h1 : 0 ≤ S.hits) (h2 : 0 ≤ S.misses) (h3 : S.hits + S.misses ≠ 0) (h4 : S.hits + S.misses ≤ 9223372036854775807)
    (hr : floatBits .quo .f64 (floatOfInt .f64 S.hits) (floatOfInt .f64 (S.hits + S.misses)) = some r) :
    Calls Try.prog 13 #[.pointer (some ⟨b + 1, 0, none⟩)] w fun e w' => e = .returned (.float .f64 r) ∧ Below w.heap.size w w' := by
  have c1 : w.cell? ⟨b + 1, 1, none⟩ = some (.int .i64 S.hits) := h.cache.cell 1
  have c2 : w.cell? ⟨b + 1, 2, none⟩ = some (.int .i64 S.misses) := h.cache.cell 2
  have hz : (S.hits + S.misses == 0) = false := by simpa using h3
  have q : ∀ W : World, (binOp .quo 32 (.float .f64 (floatOfInt .f64 S.hits)) (.float .f64 (floatOfInt .f64 (S.hits + S.misses)))).run Try.prog W = .ok (.float .f64 r) W := fun W => run_float_arith W .quo 32 .f64 _ _ r hr
  have q1 : ∀ W : World, fres .quo (floatOfInt .f64 S.hits) (floatOfInt .f64 (S.hits + S.misses)) W = r := fun W => by unfold fres; rw [hr]; rfl
  have q2 : fdn .quo (floatOfInt .f64 S.hits) (floatOfInt .f64 (S.hits + S.misses)) = 0 := by unfold fdn; rw [hr]; rfl
  generalize S.hits = h at *
  generalize S.misses = m at *
  clear hr h3
  go_enter Try.func13, Try.ntmps13
  go_wp2_with fail
  go_quiet (fail)
  go_wp2_with fail
  go_quiet (fail)
  go_wp2_with fail
  go_ret
  exact ⟨rfl, rfl, rfl, rfl, Nat.le_refl _, fun _ _ => rfl⟩
def A1 : St := putS 1 (St.new 2 1) 1 5 6 7 true
def A2 : St := (getS A1 1 5 6 7).2
def A3 : St := (getS A2 2 5 6 7).2
theorem a2 : (getS A1 1 5 6 7).1 = (true, true) := by decide +kernel
theorem a3 : (getS A2 2 5 6 7).1 = (false, false) := by decide +kernel
theorem a4 : (A3.hits, A3.misses, A3.ev, A3.held) = (1, 1, 0, 0) := by decide +kernel
theorem half_quo : floatBits .quo .f64 (floatOfInt .f64 1) (floatOfInt .f64 (1 + 1)) = some 4602678819172646912 := by decide +kernel
theorem CacheB.belowS {w w' : World} {b n : Nat} {S : St} {X : Nat → Prop} (h : CacheB w b n S) (hf : Fr X w w') (hX : ∀ k, b ≤ k → k < w.heap.size → ¬ X k) : CacheB w' b n S := h.keep fun k h1 h2 => hf.block k h2 (hX k h1 h2)
theorem _root_.Go.Mm.Fr.belowC {w w' w0 : World} {b len : Nat} (h : Fr (InC b len) w w') (hb : w0.heap.size ≤ b) (hs : w0.heap.size ≤ w.heap.size) : Below w0.heap.size w w' :=
  h.below (fun _ hg => Nat.le_trans hb hg.1) hs
theorem ratio_half {b n : Nat} {S : St} (w : World) (h : CacheB w b n S) (h1 : S.hits = 1) (h2 : S.misses = 1) :
    Calls Try.prog 13 #[.pointer (some ⟨b + 1, 0, none⟩)] w fun e w' => e = .returned (.float .f64 4602678819172646912) ∧ Below w.heap.size w w' :=
  ratio_some w _ h (by omega) (by omega) (by omega) (by omega) (by rw [h1, h2]; exact half_quo)
set_option maxHeartbeats 1000000 in
theorem alive_true (w : World) : Calls Try.prog 14 #[] w fun e w' => e = .returned (.bool true) ∧ Below w.heap.size w w' := by
  go_enter Try.func14, Try.ntmps14
  go_wp2_with fail
  refine (new_bad 0 1 _ (.inl (by decide))).mono ?_
  rintro e w1 ⟨rfl, rfl⟩
  go_wp2_with fail
  refine (new_good 2 1 _ (by decide) (by decide) (by decide) (by decide)).mono ?_
  rintro e w1 ⟨rfl, hc, hb⟩
  have C1 := Mm.hid hc
  have B1 := Mm.hid hb
  have hs1 := hb.size
  clear hc hb
  go_wp2_with fail
  refine (put_any w.heap.size 1 _ 1 5 6 7 true 0 _ C1.out (new_ok (by decide) (by decide) (by decide) (by decide)) (new_small 2 1) (by decide)).mono ?_
  rintro e w2 ⟨rfl, hc, hf⟩
  have C2 : Hid (CacheB w2 w.heap.size 1 A1) := hc
  have B2 := Mm.hid (B1.out.trans (hf.belowC (Nat.le_refl _) hs1))
  have o1 : A1.ok 1 := putS_ok _ _ _ _ _ (new_ok (by decide) (by decide) (by decide) (by decide))
  have s1 : A1.small 1 := putS_small _ _ _ _ _ (new_small 2 1)
  have O1 := Mm.hid (And.intro o1 s1)
  have hs2 := B2.out.size
  clear hc hf o1 s1
  go_wp2_with fail
  refine (get_any w.heap.size 1 A1 1 5 6 7 1 _ C2.out O1.out.1 O1.out.2 (by decide)).mono ?_
  rintro e w3 ⟨rfl, hc, hf⟩
  rw [a2]
  have C3 : Hid (CacheB w3 w.heap.size 1 A2) := hc
  have B3 := Mm.hid (B2.out.trans (hf.belowC (Nat.le_refl _) hs2))
  have o1 : A2.ok 1 := getS_ok _ _ _ _ O1.out.1
  have s1 : A2.small 2 := getS_small _ _ _ _ O1.out.2
  have O2 := Mm.hid (And.intro o1 s1)
  have hs3 := B3.out.size
  clear hc hf o1 s1
  go_wp2_with fail
  refine (get_any w.heap.size 1 A2 2 5 6 7 2 _ C3.out O2.out.1 O2.out.2 (by decide)).mono ?_
  rintro e w4 ⟨rfl, hc, hf⟩
  rw [a3]
  have C4 : Hid (CacheB w4 w.heap.size 1 A3) := hc
  have B4 := Mm.hid (B3.out.trans (hf.belowC (Nat.le_refl _) hs3))
  have hs4 := B4.out.size
  have a4 := a4
  simp only [Prod.mk.injEq] at a4
  have A4 := Mm.hid a4
  clear hc hf a4
  go_wp2_with fail
  refine (ratio_half _ C4.out A4.out.1 A4.out.2.1).mono ?_
  rintro e w5 ⟨rfl, hb⟩
  have C5 := Mm.hid (C4.out.below hb)
  have B5 := Mm.hid (B4.out.trans (hb.mono hs4))
  clear hb
  have hfeq : (FloatKind.f64.format.order 4602678819172646912 4602678819172646912 == some .eq) = true := by decide +kernel
  go_wp2_with fail
  refine (stats_any _ C5.out).mono ?_
  rintro e w6 ⟨rfl, hb⟩
  have B6 := Mm.hid (B5.out.trans (hb.mono B5.out.size))
  clear hb
  rw [A4.out.1, A4.out.2.1, A4.out.2.2.1, A4.out.2.2.2]
  go_wp2_with fail
  go_ret
  exact ⟨rfl, B6.out⟩
theorem law_names (w : World) : Calls Try.prog 4 #[] w fun e w' => e = .returned (.bool true) ∧ Below w.heap.size w w' := by
  go_enter Try.func4, Try.ntmps4
  go_wp2_with fail
  refine (alive_true _).mono ?_
  rintro e w1 ⟨rfl, hb⟩
  have B1 := Mm.hid hb
  clear hb
  go_wp2_with fail
  go_ret
  exact ⟨rfl, B1.out⟩
end Go.Proofs.Ythojgfnaanckeaa

/- Walk: the law MeterScript. -/
import Derived.Test.YtbhchnfdhdjfnaaStep
namespace Go.Proofs.Ytbhchnfdhdjfnaa
open Go.RowKit Go.Mm
theorem new_bad' (half : Int) (w : World) (h : half < 1) :
    Calls Try.prog 28 #[.int .i64 half] w fun e w' => e = .returned (.tuple #[.pointer none, .int .i64 3]) ∧ w = w' := new_bad half w h
theorem Pair.more {B g g2 : Nat} {half : Int} {k : Nat} {w : World} {v : Value} (h : Pair B g g2 half k w v) : Pair B g g2 half (k + 1) w v := by
  obtain ⟨l, a, b, c, d⟩ := h
  exact ⟨l, by omega, b, c, d⟩
theorem Pair.start {B g g2 : Nat} {half : Int} {w : World} (h : 1 ≤ half) (h' : half ≤ 9223372036854775807) (hM : MB w g ⟨half, 0, 0⟩) (hR : RM w B g2 half [] (.slice none 0 0)) : Pair B g g2 half 0 w (.slice none 0 0) :=
  ⟨[], Nat.le_refl _, Fine.nil h h', hM, hR⟩
/-- the loop's worlds: k steps on both pairs -/
def Loopt (B g1 g2 g3 g4 : Nat) (half : Int) (k k' : Nat) (w0 w : World) : Prop :=
  ∃ v u, Pair B g1 g2 half k w v ∧ Pair B g3 g4 half k' w u ∧ (∀ b, v.ownBlock = some b → u.ownBlock ≠ some b) ∧ Below B w0 w
theorem Loopt.fst {B g1 g2 g3 g4 : Nat} {half : Int} {k k' : Nat} {w0 w : World} (h : Loopt B g1 g2 g3 g4 half k k' w0 w) (s : Step) (hs : gS s) (hk : (k + 1) * 16 ≤ 140737488355328) (hB : B ≤ g1) (hB2 : B ≤ g2) (h13 : g1 ≠ g3) (h24 : g2 ≠ g4) :
    Calls Try.prog 32 #[.pointer (some ⟨g1, 0, none⟩), .pointer (some ⟨g2, 0, none⟩), .agg #[.int .i64 s.do_, .int .i64 s.now, .int .i64 s.n]] w fun e w' => e = .returned (.bool true) ∧ Loopt B g1 g2 g3 g4 half (k + 1) k' w0 w' := by
  obtain ⟨v, u, a, b, c, d⟩ := h
  refine (pair_step B g1 g2 half k v s w a hB hs hk).mono ?_
  rintro e w' ⟨rfl, v', h1, h2, h3⟩
  obtain ⟨q1, q2⟩ := both_one h13 h24 b a c h2 h3
  refine ⟨rfl, v', u, h1, q1, q2, d.trans (h3.below ?_ (Nat.le_trans hB (Nat.le_of_lt a.lts.1)))⟩
  rintro g (rfl | rfl | h)
  · exact hB
  · exact hB2
  · exact (a.row_lt _ h).1
theorem Loopt.swap {B g1 g2 g3 g4 : Nat} {half : Int} {k k' : Nat} {w0 w : World} (h : Loopt B g1 g2 g3 g4 half k k' w0 w) : Loopt B g3 g4 g1 g2 half k' k w0 w := by
  obtain ⟨v, u, a, b, c, d⟩ := h
  exact ⟨u, v, b, a, fun x h h' => c x h' h, d⟩
theorem Loopt.snd {B g1 g2 g3 g4 : Nat} {half : Int} {k k' : Nat} {w0 w : World} (h : Loopt B g1 g2 g3 g4 half k k' w0 w) (s : Step) (hs : gS s) (hk : (k' + 1) * 16 ≤ 140737488355328) (hB : B ≤ g3) (hB2 : B ≤ g4) (h13 : g1 ≠ g3) (h24 : g2 ≠ g4) :
    Calls Try.prog 32 #[.pointer (some ⟨g3, 0, none⟩), .pointer (some ⟨g4, 0, none⟩), .agg #[.int .i64 s.do_, .int .i64 s.now, .int .i64 s.n]] w fun e w' => e = .returned (.bool true) ∧ Loopt B g1 g2 g3 g4 half k (k' + 1) w0 w' := by
  refine (h.swap.fst s hs hk hB hB2 h13.symm h24.symm).mono ?_
  rintro e w' ⟨rfl, h⟩
  exact ⟨rfl, h.swap⟩
theorem Loopt.more1 {B g1 g2 g3 g4 : Nat} {half : Int} {k k' : Nat} {w0 w : World} (h : Loopt B g1 g2 g3 g4 half k k' w0 w) : Loopt B g1 g2 g3 g4 half (k + 1) k' w0 w := by
  obtain ⟨v, u, a, b, c, d⟩ := h
  exact ⟨v, u, a.more, b, c, d⟩
theorem Loopt.more2 {B g1 g2 g3 g4 : Nat} {half : Int} {k k' : Nat} {w0 w : World} (h : Loopt B g1 g2 g3 g4 half k k' w0 w) : Loopt B g1 g2 g3 g4 half k (k' + 1) w0 w := by
  obtain ⟨v, u, a, b, c, d⟩ := h
  exact ⟨v, u, a, b.more, c, d⟩
theorem Loopt.below {B g1 g2 g3 g4 : Nat} {half : Int} {k k' : Nat} {w0 w : World} (h : Loopt B g1 g2 g3 g4 half k k' w0 w) : Below B w0 w := by
  obtain ⟨v, u, a, b, c, d⟩ := h
  exact d
set_option maxRecDepth 100000 in
set_option maxHeartbeats 4000000 in
theorem law_script (half : Int) (A1 : Option Addr) (n1 c1 : Nat) (xs1 : List Step) (A2 : Option Addr) (n2 c2 : Nat) (xs2 : List Step) (w : World) (hh : (Lit.int .i64 half).wf = true) (h1 : Sl w 3 24 fS gS A1 n1 c1 xs1) (h2 : Sl w 3 24 fS gS A2 n2 c2 xs2) :
    Calls Try.prog 12 #[.int .i64 half, .slice A1 n1 c1, .slice A2 n2 c2] w fun e w' => e = .returned (.bool true) ∧ Below w.heap.size w w' := by
  have b1 := wf64 hh
  by_cases hhalf : half < 1
  · clear h1 h2 hh b1
    go_enter Try.func12, Try.ntmps12
    go_wp2_with fail
    refine (new_bad' half _ hhalf).mono ?_
    rintro e w1 ⟨rfl, rfl⟩
    go_wp2_with fail
    refine (rnew_bad half _ hhalf).mono ?_
    rintro e w1 ⟨rfl, rfl⟩
    go_wp2_with fail
    refine (new_bad' half _ hhalf).mono ?_
    rintro e w1 ⟨rfl, rfl⟩
    go_wp2_with fail
    refine (rnew_bad half _ hhalf).mono ?_
    rintro e w1 ⟨rfl, rfl⟩
    go_wp2_with fail
    go_ret
    exact ⟨rfl, Below.refl _ _⟩
  · have hh1 : 1 ≤ half := by omega
    have hn1 : n1 ≤ 5865000000000 := by have := h1.room; omega
    have hn2 : n2 ≤ 5865000000000 := by have := h2.room; omega
    have R1 := Mm.hid (rdS_of h1.len h1.rd)
    have R2 := Mm.hid (rdS_of h2.len h2.rd)
    have G1 := Mm.hid h1.good
    have G2 := Mm.hid h2.good
    have BH := Mm.hid b1
    clear h1 h2 hh hhalf b1
    go_enter Try.func12, Try.ntmps12
    go_wp2_with fail
    refine (new_good' half _ hh1).mono ?_
    rintro e w1 ⟨rfl, hm1, hB1, hs1⟩
    go_wp2_with fail
    refine (rnew_good w.heap.size half _ hh1).mono ?_
    rintro e w2 ⟨rfl, hr1, hB2, hs2⟩
    have P2 := Mm.hid (Pair.start hh1 BH.out.2 (hm1.keep (hB2.block _ hs1)) hr1)
    have B2 := Mm.hid (hB1.trans (hB2.mono hB1.size))
    have S2 := Mm.hid (And.intro hs1 hs2)
    clear hm1 hB1 hs1 hr1 hB2 hs2
    go_wp2_with fail
    refine (new_good' half _ hh1).mono ?_
    rintro e w3 ⟨rfl, hm3, hB3, hs3⟩
    go_wp2_with fail
    refine (rnew_good w.heap.size half _ hh1).mono ?_
    rintro e w4 ⟨rfl, hr3, hB4, hs4⟩
    have P4 := Mm.hid (Pair.start hh1 BH.out.2 (hm3.keep (hB4.block _ hs3)) hr3)
    have P2' := Mm.hid ((P2.out.fr ((Fr.of_below hB3).trans (Fr.of_below hB4) (fun _ _ h => h)) (fun h => h) (fun h => h) (fun _ _ h => h)))
    have B4 := Mm.hid (B2.out.trans ((hB3.mono B2.out.size).trans (hB4.mono (Nat.le_trans B2.out.size hB3.size))))
    have S4 := Mm.hid (And.intro S2.out.1 (And.intro S2.out.2 (And.intro hs3 hs4)))
    clear hm3 hB3 hs3 hr3 hB4 hs4 P2 B2 S2
    generalize hg1 : w.heap.size = g1 at *
    generalize hg2 : w1.heap.size = g2 at *
    generalize hg3 : w2.heap.size = g3 at *
    generalize hg4 : w3.heap.size = g4 at *
    have HG := Mm.hid hg1
    clear hg1 hg2 hg3 hg4
    go_wp2_with fail
    have L0 : Hid (Loopt g1 g1 g2 g3 g4 half 0 0 w w4) := ⟨_, _, P2'.out, P4.out, fun b h => (by cases h), B4.out⟩
    have gs := S4.out
    clear P2' P4 B4
    go_loopw [15, 16, 17] (fun i y1 y2 wr => ∃ (k : Nat), (k ≤ n1 ∨ k ≤ n2) ∧ i = .int .i64 (k : Nat) ∧ Hid (Loopt g1 g1 g2 g3 g4 half k k w wr)) (fun i _ _ _ => n1 + n2 - (intOf i).toNat)
    case atStart => exact ⟨0, .inl (Nat.zero_le _), rfl, L0⟩
    case round =>
      obtain ⟨k, hk, rfl, HL⟩ := hrel
      have hle : w.heap.size ≤ g1 := Nat.le_of_eq HG.out
      have BB := Mm.hid (HL.out.below.mono hle)
      clear L0
      by_cases l1 : k < n1
      · obtain ⟨ad1, hA1, hl1, hc1⟩ := (R1.out.below BB.out).2 (by omega)
        subst hA1
        have q1 := R1.out.1
        have hs1 := hc1 k xs1[k] (List.getElem?_eq_getElem (by omega))
        rw [add_field _ _ 1 (by decide), add_field _ _ 2 (by decide)] at hs1
        have hg1 := Mm.hid (G1.out xs1[k] (List.getElem_mem _))
        generalize xs1[k] = s1 at *
        obtain ⟨e0, e1, e2⟩ := hs1
        clear hc1 hl1 q1
        go_wp2_with fail
        refine (HL.out.fst s1 hg1.out (by omega) (Nat.le_refl _) (by omega) (by omega) (by omega)).mono ?_
        rintro e w5 ⟨rfl, hl⟩
        have HL5 := Mm.hid hl
        have B5 := Mm.hid (HL5.out.below.mono hle)
        clear hl HL e0 e1 e2 BB
        by_cases l2 : k < n2
        · obtain ⟨ad2, hA2, hl2, hc2⟩ := (R2.out.below B5.out).2 (by omega)
          subst hA2
          have q2 := R2.out.1
          have hs2 := hc2 k xs2[k] (List.getElem?_eq_getElem (by omega))
          rw [add_field _ _ 1 (by decide), add_field _ _ 2 (by decide)] at hs2
          have hg2 := Mm.hid (G2.out xs2[k] (List.getElem_mem _))
          generalize xs2[k] = s2 at *
          obtain ⟨e0, e1, e2⟩ := hs2
          clear hc2 hl2 q2
          go_wp2_with fail
          refine (HL5.out.snd s2 hg2.out (by omega) (by omega) (by omega) (by omega) (by omega)).mono ?_
          rintro e w6 ⟨rfl, hl⟩
          have HL6 := Mm.hid hl
          clear hl e0 e1 e2 B5 HL5
          go_wp2
          go_roundw
          case rel => exact ⟨k + 1, by omega, by go_num, HL6⟩
          case measure => simp [intOf]; omega
        · go_wp2
          go_roundw
          case rel => exact ⟨k + 1, by omega, by go_num, HL5.out.more2⟩
          case measure => simp [intOf]; omega
      · by_cases l2 : k < n2
        · obtain ⟨ad2, hA2, hl2, hc2⟩ := (R2.out.below BB.out).2 (by omega)
          subst hA2
          have q2 := R2.out.1
          have hs2 := hc2 k xs2[k] (List.getElem?_eq_getElem (by omega))
          rw [add_field _ _ 1 (by decide), add_field _ _ 2 (by decide)] at hs2
          have hg2 := Mm.hid (G2.out xs2[k] (List.getElem_mem _))
          generalize xs2[k] = s2 at *
          obtain ⟨e0, e1, e2⟩ := hs2
          clear hc2 hl2 q2
          go_wp2_with fail
          refine (HL.out.snd s2 hg2.out (by omega) (by omega) (by omega) (by omega) (by omega)).mono ?_
          rintro e w6 ⟨rfl, hl⟩
          have HL6 := Mm.hid hl
          clear hl e0 e1 e2 BB HL
          go_wp2
          go_roundw
          case rel => exact ⟨k + 1, by omega, by go_num, HL6.out.more1⟩
          case measure => simp [intOf]; omega
        · go_wp2
          go_ret
          exact ⟨rfl, by rw [HG.out]; exact HL.out.below⟩
end Go.Proofs.Ytbhchnfdhdjfnaa

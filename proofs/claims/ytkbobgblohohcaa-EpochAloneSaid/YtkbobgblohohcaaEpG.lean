/- Walk: the law EpochAlone. -/
import Derived.Test.YtkbobgblohohcaaEpF
import Derived.Test.YtkbobgblohohcaaScG
namespace Go.Proofs.Ytkbobgblohohcaa
open Go.RowKit Go.Mm Go.Cells
def wantV (n : Nat) (f : Int) : List Acc := [⟨2, (n : Int), f, 0, true⟩, ⟨4, (n : Int), 1, f, true⟩]
theorem start_plain {n : Nat} {f : Int} (hf : 1 ≤ f) (hf2 : f ≤ 1000000) (es : List Bool) : (Cm.new (n + 1)).ws[n]? = some 0 ∧ ((Cm.new (n + 1)).store (n : Int) f).look (n : Int) = (f, 0) ∧ ((Cm.new (n + 1)).store (n : Int) f).tr.length = 1 ∧ ((Cm.new (n + 1)).store (n : Int) f).bad = 0 ∧ ((Cm.new (n + 1)).store (n : Int) f).ws.length = n + 1 ∧ E1 n f 0 es (((Cm.new (n + 1)).store (n : Int) f).add (n : Int) 1) (wantV n f) := by
  have h0 : (Cm.new (n + 1)).ws[n]? = some 0 := by show (List.replicate (n + 1) (0 : Int))[n]? = _; simp
  obtain ⟨a1, a2⟩ := look_good h0 (by decide)
  obtain ⟨b1, b2, b3⟩ := store_ws (y := f) h0 (by decide)
  have h1 : ((Cm.new (n + 1)).store (n : Int) f).ws[n]? = some f := by rw [b1]; exact set_get h0
  have hp : f ≠ poison := by unfold poison; omega
  obtain ⟨c1, c2⟩ := look_good h1 hp
  obtain ⟨d1, d2, d3⟩ := add_ws (y := 1) h1 hp
  have hw : wrap64 (f + 1) = f + 1 := by unfold wrap64; omega
  have hb0 : (Cm.new (n + 1)).bad = 0 := rfl
  have hl0 : (Cm.new (n + 1)).tr.length = 0 := rfl
  have hn0 : (Cm.new (n + 1)).ws.length = n + 1 := by show (List.replicate (n + 1) (0 : Int)).length = _; simp
  refine ⟨h0, c1, by rw [b3, hl0], by rw [b2, hb0], by rw [b1, List.length_set, hn0], ?_, by rw [d2, b2, hb0], by rw [d1, List.length_set, b1, List.length_set, hn0], ?_, fun j hj => ?_, by simp [wantV]⟩
  · show ((Cm.new (n + 1)).store (n : Int) f).tr ++ [⟨4, (n : Int), 1, (((Cm.new (n + 1)).store (n : Int) f).look (n : Int)).1, (((Cm.new (n + 1)).store (n : Int) f).look (n : Int)).2 == 0⟩] = _
    rw [c1]
    show ((Cm.new (n + 1)).tr ++ [⟨2, (n : Int), f, ((Cm.new (n + 1)).look (n : Int)).1, ((Cm.new (n + 1)).look (n : Int)).2 == 0⟩]) ++ _ = _
    rw [a1]
    rfl
  · rw [d1, set_get h1, hw]
  · rw [d1, List.getElem?_set_ne (by omega), b1, List.getElem?_set_ne (by omega)]
    show (List.replicate (n + 1) (0 : Int))[j]? = _
    unfold slV
    rw [if_neg (by omega), List.getElem?_replicate, if_pos (by omega)]
theorem EW.begin {base g n sl gr : Nat} {w0 w w' : World} {G : Nat → Prop} {S : Cm} {f : Int} (h : HasG base g w0 G S w) (g1 : G sl) (g2 : G gr) (g4 : ∀ k, G k → base ≤ k) (K : Blk w sl 157 #[.pointer (some ⟨g, 0, none⟩), .int .i64 (n : Int), .int .i64 ((0 : Nat) : Int), .int .i64 (n : Int)]) (Y : Blk w gr 159 #[.pointer (some ⟨sl, 0, none⟩), .int .i64 0, .int .i64 (-1)])
    (hw : w' = w.alloc (.cells #[.int .i8 2, .int .i64 (n : Int), .int .i64 f, .int .i64 0, .bool true, .int .i8 4, .int .i64 (n : Int), .int .i64 1, .int .i64 f, .bool true] 47)) : EW base g w0 n sl gr 0 (-1) (.slice (some ⟨w.heap.size, 0, none⟩) 2 2) (wantV n f) S w' := by
  have B := (Below.refl w.heap.size w).alloc (Nat.le_refl _) (.cells #[.int .i8 2, .int .i64 (n : Int), .int .i64 f, .int .i64 0, .bool true, .int .i8 4, .int .i64 (n : Int), .int .i64 1, .int .i64 f, .bool true] 47)
  have hle := h.le
  have gr' := h.grow (.cells #[.int .i8 2, .int .i64 (n : Int), .int .i64 f, .int .i64 0, .bool true, .int .i8 4, .int .i64 (n : Int), .int .i64 1, .int .i64 f, .bool true] 47)
  have ow := own_lit5 w base #[.int .i8 2, .int .i64 (n : Int), .int .i64 f, .int .i64 0, .bool true, .int .i8 4, .int .i64 (n : Int), .int .i64 1, .int .i64 f, .bool true] 2 ((wantV n f).flatMap fAcc) rfl rfl (by decide) hle
  rw [← hw] at B gr' ow
  refine ⟨_, gr', ⟨.inl g1, .inl g2, fun b hb => .inr ?_, ?_⟩, K.keep (B.block _ K.lt), Y.keep (B.block _ Y.lt), ow⟩
  · injection hb with hb; exact hb.symm
  · rintro k (hk | rfl)
    · exact g4 k hk
    · exact hle
set_option maxRecDepth 100000 in
set_option maxHeartbeats 8000000 in
theorem law_epochalone (slots start : Int) (A : Option Addr) (N c : Nat) (es : List Bool) (w : World) (_ : (Lit.int .i64 slots).wf = true) (_ : (Lit.int .i64 start).wf = true) (h : Sl w 1 1 fBl (fun _ => True) A N c es) :
    Calls Try.prog 16 #[.int .i64 slots, .int .i64 start, .slice A N c] w fun e w' => e = .returned (.bool true) ∧ Below w.heap.size w w' := by
  have R := Mm.hid h.rd
  have LN := Mm.hid h.len
  have hcap : N ≤ c := h.cap
  have hroom : N ≤ 140737488351232 := by have := h.room; omega
  clear h
  go_enter Try.func16, Try.ntmps16
  go_wp2_with fail
  refine (awake_any _).mono ?_
  rintro e w1 ⟨rfl, b1⟩
  have B1 := Mm.hid b1
  clear b1
  go_wp2_with fail
  refine (at18_any slots 16 _ (by decide) (by decide)).mono ?_
  rintro e w0 ⟨p, hp, rfl, rfl, -⟩
  go_upto_region 3 with (fail)
  have hp1 : ((1 : Int) + (p : Int)) = ((1 + p : Nat) : Int) := by omega
  rw [hp1]
  clear hp1
  have hn1 : 1 ≤ 1 + p := by omega
  have hn2 : 1 + p ≤ 16 := by omega
  generalize 1 + p = n at *
  clear hp
  have HN1 : Hid ((1 : Int) + (n : Int) = ((n + 1 : Nat) : Int)) := by show _ = _; omega
  go_wp2_with fail
  rw [HN1.out]
  refine (new_good (n + 1) _ (by omega) (by omega)).mono ?_
  rintro e w2 ⟨g, rfl, N2⟩
  have H2 : Hid (HasG w1.heap.size g w1 (fun _ => False) (Cm.new (n + 1)) w2) := ⟨_, N2.out.2.1, N2.out.2.2, fun _ h => h.elim⟩
  clear N2
  go_wp2_with fail
  refine (at18_any start 1000000 _ (by decide) (by decide)).mono ?_
  rintro e w0 ⟨q, hq, rfl, rfl, -⟩
  go_upto_region 7 with (fail)
  obtain ⟨f, hf⟩ : ∃ f : Int, (1 : Int) + (q : Int) = f := ⟨_, rfl⟩
  rw [hf]
  have hf1 : 1 ≤ f := by omega
  have hf2 : f ≤ 1000000 := by omega
  clear hf hq
  obtain ⟨s0, s1, s2, s3, s4, s5⟩ := start_plain (n := n) hf1 hf2 es
  have T0 := Mm.hid (And.intro s1 (And.intro s2 (And.intro s3 s4)))
  have T5 := Mm.hid s5
  have RB0 : Hid ((Cm.new (n + 1)).bad ≤ 4611686018427387904 ∧ ((Cm.new (n + 1)).tr.length + 1) * 40 ≤ 140737488355328) := by
    have h1 : (Cm.new (n + 1)).bad = 0 := rfl
    have h2 : (Cm.new (n + 1)).tr.length = 0 := rfl
    show _ ∧ _
    rw [h1, h2]; exact ⟨by decide, by decide⟩
  clear s0 s1 s2 s3 s4 s5
  go_wp2_with fail
  refine (H2.out.op fun F m1 m2 => store_any _ g F (Cm.new (n + 1)) (n : Int) _ f m1 m2 RB0.out.1 RB0.out.2).mono ?_
  rintro e w3 ⟨rfl, h3, -⟩
  generalize (Cm.new (n + 1)).store (n : Int) f = S1 at *
  have H3 := Mm.hid h3
  obtain ⟨F3, f3, _⟩ := h3.out
  have M3 := Mm.hid f3
  clear h3 f3 H2 RB0
  have SC : Hid (slotC (n + 1) (n : Int) 0 (n : Int) = 0) := slotC_ok (by omega) (by omega) (by omega)
  go_wp2_with fail
  refine (slots_any F3 (n + 1) (n : Int) 0 (n : Int) M3.out T0.out.2.2.2 (by omega)).mono ?_
  rw [SC.out]
  rintro e w4 (⟨h0, _, _⟩ | ⟨_, rfl, hw4⟩)
  · exact absurd rfl h0
  have H4 : Hid (HasG w1.heap.size g w1 (fun k => False ∨ k = w3.heap.size) S1 w4) := by show HasG _ _ _ _ _ _; rw [hw4]; exact H3.out.grow _
  have K4 : Hid (Blk w4 w3.heap.size 157 #[.pointer (some ⟨g, 0, none⟩), .int .i64 (n : Int), .int .i64 ((0 : Nat) : Int), .int .i64 (n : Int)]) := by show Blk _ _ _ _; rw [hw4]; exact Blk.new w3 _ 157
  have hslb : w1.heap.size ≤ w3.heap.size := H3.out.le
  clear hw4 H3 M3 SC
  generalize w3.heap.size = sl at *
  go_wp2_with fail
  refine (wait_any sl _).mono ?_
  rintro e w5 ⟨rfl, hw5⟩
  have H5 : Hid (HasG w1.heap.size g w1 (fun k => (False ∨ k = sl) ∨ k = w4.heap.size) S1 w5) := by show HasG _ _ _ _ _ _; rw [hw5]; exact H4.out.grow _
  have Y5 : Hid (Blk w5 w4.heap.size 159 #[.pointer (some ⟨sl, 0, none⟩), .int .i64 0, .int .i64 (-1)]) := by show Blk _ _ _ _; rw [hw5]; exact Blk.new w4 _ 159
  have K5 : Hid (Blk w5 sl 157 #[.pointer (some ⟨g, 0, none⟩), .int .i64 (n : Int), .int .i64 ((0 : Nat) : Int), .int .i64 (n : Int)]) := by show Blk _ _ _ _; rw [hw5]; exact K4.out.keep (Below.heap_alloc w4 _ _ K4.out.lt)
  have hgb : w1.heap.size ≤ w4.heap.size := H4.out.le
  clear hw5 H4 K4
  generalize w4.heap.size = gr at *
  have EB := Mm.hid (fun w' hw => EW.begin (w' := w') (f := f) H5.out (.inl (.inr rfl)) (.inr rfl) (fun k hk => by rcases hk with (h | h) | h; exact h.elim; exact h ▸ hslb; exact h ▸ hgb) K5.out Y5.out hw)
  go_upto_region 15 with (fail)
  obtain ⟨w6, hw6⟩ : ∃ w6, w5.alloc (.cells #[.int .i8 2, .int .i64 (n : Int), .int .i64 f, .int .i64 0, .bool true, .int .i8 4, .int .i64 (n : Int), .int .i64 1, .int .i64 f, .bool true] 47) = w6 := ⟨_, rfl⟩
  have E6 := Mm.hid (EB.out w6 hw6.symm)
  rw [hw6]
  clear hw6 EB H5 Y5 K5
  obtain ⟨v0, hv0⟩ : ∃ v0, Value.slice (some ⟨w5.heap.size, 0, none⟩) 2 2 = v0 := ⟨_, rfl⟩
  rw [hv0] at E6 ⊢
  clear hv0
  have RB1 : Hid (S1.bad ≤ 4611686018427387904 ∧ (S1.tr.length + 1) * 40 ≤ 140737488355328) := by
    show _ ∧ _
    rw [T0.out.2.2.1, T0.out.2.1]; exact ⟨by decide, by decide⟩
  go_wp2_with fail
  refine (ew_first E6.out RB1.out.1 RB1.out.2).mono ?_
  rw [T0.out.1, show wrap64 (f + 1) = f + 1 from by unfold wrap64; omega]
  rintro e w7 ⟨rfl, h7⟩
  have ST : Hid (∃ (l : List Acc) (S : Cm), l.length ≤ 2 + 2 * 0 ∧ E1 n f 0 es S l ∧ EW w1.heap.size g w1 n sl gr (f + 1) ((0 : Nat) : Int) v0 l S w7) := ⟨_, _, T5.out.le, T5.out, h7⟩
  clear h7 E6 T0 T5 RB1
  go_wp2_with fail
  go_loopw [15, 17, 18, 19] (fun v i _ _ wr => ∃ k : Nat, k ≤ n ∧ k ≤ N ∧ i = .int .i64 (k : Nat) ∧ Hid (∃ (l : List Acc) (S : Cm), l.length ≤ 2 + 2 * k ∧ E1 n f k es S l ∧ EW w1.heap.size g w1 n sl gr (f + 1) ((0 : Nat) : Int) v l S wr)) (fun _ i _ _ _ => n - (intOf i).toNat)
  case atStart => exact ⟨0, Nat.zero_le _, Nat.zero_le _, rfl, ST.out⟩
  case round =>
    obtain ⟨k, hkn, hkN, rfl, HK⟩ := hrel
    clear ST
    obtain ⟨l, S, hl, e1, ew⟩ := HK.out
    have E1' := Mm.hid e1
    have EW' := Mm.hid ew
    have BW := Mm.hid ew.to
    have hl34 : l.length ≤ 34 := by omega
    clear HK e1 ew
    have BN : Hid (Below w.heap.size w wr) := B1.out.trans (BW.out.mono B1.out.size)
    by_cases hgo : k < N ∧ k < n
    · obtain ⟨hlt, hln⟩ := hgo
      · obtain ⟨b, hb⟩ : ∃ b, es[k]? = some b := ⟨_, List.getElem?_eq_getElem (by rw [LN.out]; exact hlt)⟩
        have HE := Mm.hid (entB_at hb)
        obtain ⟨ad, rfl, _, f1⟩ := (R.out.below BN.out).cell (fBl_get hb)
        clear hb
        cases b
        · have FN : Hid (∃ (l : List Acc) (S : Cm), l.length ≤ 2 + 2 * (k + 1) ∧ E1 n f (k + 1) es S l ∧ EW w1.heap.size g w1 n sl gr (f + 1) ((0 : Nat) : Int) u15 l S wr) := ⟨l, S, by omega, E1'.out.skip HE.out, EW'.out⟩
          go_wp2
          go_roundw
          case rel => exact ⟨k + 1, by omega, by omega, by go_num, FN.out⟩
          case measure => simp [intOf] <;> omega
        · obtain ⟨p1, p2, p3⟩ := E1'.out.come hf1 hln HE.out
          have P1 := Mm.hid p1
          have P3 := Mm.hid p3
          have RB : Hid (S.bad ≤ 4611686018427387904 ∧ (S.tr.length + 1) * 40 ≤ 140737488355328) := by
            show _ ∧ _
            rw [E1'.out.bad, E1'.out.tr]; exact ⟨by decide, by omega⟩
          have RB2 : Hid ((S.load (n : Int)).bad ≤ 4611686018427387904 ∧ ((S.load (n : Int)).tr.length + 1) * 40 ≤ 140737488355328) := by
            have h1 := load_ws' S (n : Int)
            have h2 := E1'.out.bad
            have h3 := E1'.out.tr
            show _ ∧ _
            rw [h1.2.1, h3]
            exact ⟨by omega, by omega⟩
          clear p1 p2 p3
          go_wp2_with fail
          refine (ew_enter EW'.out hln).mono ?_
          rintro e w8 ⟨xb, rfl, X8⟩
          clear f1
          go_wp2_with fail
          refine (ex_one X8.out (by rw [P1.out]) RB.out.1 RB.out.2).mono ?_
          rintro e w9 ⟨rfl, h9⟩
          have X9 := Mm.hid h9
          clear h9 X8
          go_wp2_with fail
          refine (ex_two X9.out (by omega) RB2.out.1 RB2.out.2).mono ?_
          rintro e wa ⟨rfl, ha⟩
          have EA := Mm.hid ha.ew
          clear ha X9
          obtain ⟨G, _, _, _, _, hrow⟩ := EA.out.out
          obtain ⟨A1, c1, rfl, hc1, _, _⟩ := own_slice hrow
          have HR := Mm.hid hrow
          have hsz := EA.out.le
          clear hrow
          obtain ⟨m, hm⟩ : ∃ m, l.length = m := ⟨_, rfl⟩
          rw [hm] at HR hc1
          have HM := Mm.hid hm
          have hm34 : m ≤ 34 := by omega
          have hl40 : Hid ((m + 2) * 40 ≤ 140737488355328) := Mm.hid (by omega)
          have RL := Mm.hid (rd_lit5 wa #[.int .i8 1, .int .i64 (n : Int), .int .i64 (f + 1), .int .i64 0, .bool true, .int .i8 2, .int .i64 (k : Int), .int .i64 (f + 1), .int .i64 0, .bool true] 2 rfl (by decide))
          have BA : Hid (Below wa.heap.size wa (wa.alloc (.cells #[.int .i8 1, .int .i64 (n : Int), .int .i64 (f + 1), .int .i64 0, .bool true, .int .i8 2, .int .i64 (k : Int), .int .i64 (f + 1), .int .i64 0, .bool true] 47))) := (Below.refl _ _).alloc (Nat.le_refl _) _
          have HRA := Mm.hid ((Fr.of_below BA.out).own HR.out (fun _ _ h => h))
          have HSA : Hid (w1.heap.size ≤ (wa.alloc (.cells #[.int .i8 1, .int .i64 (n : Int), .int .i64 (f + 1), .int .i64 0, .bool true, .int .i8 2, .int .i64 (k : Int), .int .i64 (f + 1), .int .i64 0, .bool true] 47)).heap.size) := Nat.le_trans hsz BA.out.size
          rw [hm]
          have HO : Hid (∀ u ∈ (#[Value.int .i8 1, .int .i64 (n : Int), .int .i64 (f + 1), .int .i64 0, .bool true, .int .i8 2, .int .i64 (k : Int), .int .i64 (f + 1), .int .i64 0, .bool true] : Array Value).toList, u.oneCell' = true) := by intro u hu; simp at hu; rcases hu with rfl | rfl | rfl | rfl | rfl | rfl | rfl | rfl | rfl | rfl <;> rfl
          have EA2 := Mm.hid (EA.out.after BA.out)
          rw [hm] at EA2
          clear hm hl hl34
          go_wp2_with (at_builtin; go_must (refine wp_ape w1.heap.size rfl (.tmp 101) (.tmp 110) 41 47 (.agg #[.int .i8 0, .int .i64 0, .int .i64 0, .int .i64 0, .bool false]) 5 40 rfl Try.underlying41 info47 rfl (by decide) (by decide) (.slice A1 m c1) m _ (some ⟨wa.heap.size, 0, none⟩) 2 2 (#[Value.int .i8 1, .int .i64 (n : Int), .int .i64 (f + 1), .int .i64 0, .bool true, .int .i8 2, .int .i64 (k : Int), .int .i64 (f + 1), .int .i64 0, .bool true] : Array Value).toList rfl rfl RL.out HO.out HRA.out (Below.refl _ _) HSA.out hl40.out ?_; intro v1 wb k1 k2 k3 k4; have K1 := Mm.hid k1; have K3 := Mm.hid k3; have K4 := Mm.hid (k4_of k4); clear k1 k2 k3 k4))
          all_goals (
            have FN : Hid (∃ (l : List Acc) (S : Cm), l.length ≤ 2 + 2 * (k + 1) ∧ E1 n f (k + 1) es S l ∧ EW w1.heap.size g w1 n sl gr (f + 1) ((0 : Nat) : Int) v1 l S wb) := ⟨_, _, P3.out.le, P3.out, EA2.out.push (by rw [HM.out]; exact K1.out) K3.out K4.out⟩
            go_roundw
            case rel => exact ⟨k + 1, by omega, by omega, by go_num, FN.out⟩
            case measure => simp [intOf] <;> omega)
    · have EX : Hid (∃ (l : List Acc) (S : Cm), E2 n f 0 es S l ∧ EW w1.heap.size g w1 n sl gr (f + 1) ((0 : Nat) : Int) u15 l S wr) := ⟨l, S, ⟨E1'.out.tr, E1'.out.bad, E1'.out.len, E1'.out.all hkn (by rw [LN.out]; omega), by omega⟩, EW'.out⟩
      have hkn' : N ≤ k ∨ n ≤ k := by omega
      clear E1' EW' BW BN hl hl34 hgo
      rcases (show (k < N ∧ n = k) ∨ ¬ k < N by omega) with ⟨hlt, rfl⟩ | hlt
      all_goals clear hkn'
      all_goals (
        go_wp2_with fail
        go_loopw [7, 15, 20, 21, 22, 23, 24] (fun ok v i _ _ _ _ wr => ∃ k : Nat, k ≤ n ∧ ok = .bool true ∧ i = .int .i64 (k : Nat) ∧ Hid (∃ (l : List Acc) (S : Cm), E2 n f k es S l ∧ EW w1.heap.size g w1 n sl gr (f + 1) (k : Int) v l S wr)) (fun _ _ i _ _ _ _ _ => n - (intOf i).toNat)
        case atStart => exact ⟨0, Nat.zero_le _, rfl, rfl, EX.out⟩
        case round =>
          obtain ⟨k2, hk2, rfl, rfl, HK2⟩ := hrel
          clear EX
          have BW : Hid (Below w1.heap.size w1 wr) := by obtain ⟨_, _, _, h⟩ := HK2.out; exact h.to
          have BN : Hid (Below w.heap.size w wr) := B1.out.trans (BW.out.mono B1.out.size)
          by_cases hln2 : k2 < n
          · go_upto_region 30 with (fail)
            go_cut [129] from 120 to 129 (fun t wc => t = .bool (entB es k2) ∧ wr = wc)
            case first =>
              by_cases hl2 : k2 < N
              · obtain ⟨b, hb⟩ : ∃ b, es[k2]? = some b := ⟨_, List.getElem?_eq_getElem (by rw [LN.out]; exact hl2)⟩
                have HE := Mm.hid (entB_at hb)
                obtain ⟨ad, rfl, _, f1⟩ := (R.out.below BN.out).cell (fBl_get hb)
                clear hb HK2
                go_wp2_with fail
                go_meet
                exact ⟨by rw [HE.out], rfl⟩
              · have HE : Hid (entB es k2 = false) := entB_out (by rw [LN.out]; omega)
                clear HK2
                go_wp2_with fail
                go_meet
                exact ⟨by rw [HE.out], rfl⟩
            case rest =>
              obtain ⟨rfl, rfl⟩ := hcut
              obtain ⟨l2, S2, e2, ew2⟩ := HK2.out
              obtain ⟨p1, p2, p3⟩ := e2.look hf1 hln2
              have sv : Hid (slV es f n k2 = if entB es k2 = true then f + 1 else 0) := by
                show _ = _
                unfold slV
                simp [hln2]
              obtain ⟨x, hx⟩ : ∃ x, slV es f n k2 = x := ⟨_, rfl⟩
              have WX := Mm.hid (e2.sl k2 hln2)
              rw [hx] at p1 p2 p3 sv WX
              have P1 := Mm.hid p1
              have P2 := Mm.hid p2
              have P3 := Mm.hid p3
              have E2' := Mm.hid ew2
              have RB : Hid (S2.bad ≤ 4611686018427387904 ∧ (S2.tr.length + 1) * 40 ≤ 140737488355328) := by
                have := e2.le
                show _ ∧ _
                rw [e2.bad, e2.tr]; exact ⟨by decide, by omega⟩
              have hl2 : l2.length ≤ 116 := by have := e2.le; omega
              obtain ⟨bb, hbb⟩ : ∃ bb, entB es k2 = bb := ⟨_, rfl⟩
              rw [hbb] at sv ⊢
              clear p1 p2 p3 e2 ew2 HK2 hx hbb
              go_upto_if 129 with (fail)
              go_cut [21] from 129 to 131 (fun t wc => t = .int .i64 x ∧ wr = wc)
              case first =>
                cases bb
                · have hx0 : 0 = x := sv.out.symm
                  subst hx0
                  clear P1 P2 P3 WX sv
                  go_wp2_with fail
                  go_meet
                  exact ⟨rfl, rfl⟩
                · have hx0 : f + 1 = x := sv.out.symm
                  subst hx0
                  clear P1 P2 P3 WX sv
                  go_wp2_with fail
                  go_meet
                  exact ⟨rfl, rfl⟩
              case rest =>
                obtain ⟨rfl, rfl⟩ := hcut
                clear sv
                obtain ⟨G, _, _, _, _, hrow⟩ := E2'.out.out
                obtain ⟨A1, c1, rfl, hc1, _, _⟩ := own_slice hrow
                have HR := Mm.hid hrow
                have hsz := E2'.out.le
                clear hrow
                obtain ⟨m, hm⟩ : ∃ m, l2.length = m := ⟨_, rfl⟩
                rw [hm] at HR hc1 E2' hl2
                have HM := Mm.hid hm
                have hl40 : Hid ((m + 1) * 40 ≤ 140737488355328) := Mm.hid (by omega)
                rw [hm]
                clear hm
                have HO : Hid (∀ u ∈ (#[Value.int .i8 1, .int .i64 (k2 : Int), .int .i64 x, .int .i64 0, .bool true] : Array Value).toList, u.oneCell' = true) := by intro u hu; simp at hu; rcases hu with rfl | rfl | rfl | rfl | rfl <;> rfl
                go_wp2_with (at_builtin; go_must (refine wp_ape1 w1.heap.size rfl (.tmp 132) (.tmp 136) 41 47 (.agg #[.int .i8 0, .int .i64 0, .int .i64 0, .int .i64 0, .bool false]) 5 40 #[Value.int .i8 1, .int .i64 (k2 : Int), .int .i64 x, .int .i64 0, .bool true] rfl Try.underlying41 info47 rfl (by decide) (by decide) (.slice A1 m c1) m _ rfl rfl rfl HO.out HR.out (Below.refl _ _) hsz hl40.out ?_; intro v1 wb k1 k2' k3 k4; have K1 := Mm.hid k1; have K3 := Mm.hid k3; have K4 := Mm.hid (k4_of k4); clear k1 k2' k3 k4))
                all_goals (
                  have EP := Mm.hid (E2'.out.push (ys := [⟨1, (k2 : Int), x, 0, true⟩]) (by rw [HM.out]; exact K1.out) K3.out K4.out)
                  clear K1 K3 K4 HR E2' HO hl40
                  refine (ew_at EP.out rfl hln2).mono ?_
                  rintro e wc ⟨rfl, hc⟩
                  have EC := Mm.hid hc
                  clear hc EP
                  go_wp2_with fail
                  refine (ew_ready EC.out rfl WX.out P2.out hln2 hn2).mono ?_
                  rintro e wd ⟨rfl, hd⟩
                  have ED := Mm.hid hd
                  clear hd EC
                  go_wp2_with fail
                  refine (ew_look ED.out rfl (by rw [P1.out]) P2.out hln2 hn2 RB.out.1 RB.out.2).mono ?_
                  rintro e we ⟨rfl, he⟩
                  have FN : Hid (∃ (l : List Acc) (S : Cm), E2 n f (k2 + 1) es S l ∧ EW w1.heap.size g w1 n sl gr (f + 1) ((k2 + 1 : Nat) : Int) v1 l S we) := ⟨_, _, P3.out, he⟩
                  clear he ED P1 P2 P3 WX RB
                  obtain ⟨b, hb⟩ : ∃ b, ((k2 : Int) == (n : Int) - 1) = b := ⟨_, rfl⟩
                  have hg : grT true k2 n = b := by
                    rw [← hb]
                    unfold grT
                    rw [Bool.eq_iff_iff]
                    simp
                    omega
                  rw [hg]
                  clear hg
                  go_wp2
                  go_roundw
                  case rel => exact ⟨k2 + 1, by omega, by simp, by go_num, FN.out⟩
                  case measure => simp [intOf] <;> omega)
          · have hkk : k2 = n := by omega
            obtain ⟨l2, S2, e2, ew2⟩ := HK2.out
            rw [hkk] at e2 ew2
            have EE := Mm.hid e2
            have E2' := Mm.hid ew2
            have hl2 : l2.length ≤ 116 := by have := e2.le; omega
            have RB : Hid (S2.bad ≤ 4611686018427387904 ∧ (S2.tr.length + 1) * 40 ≤ 140737488355328) := by
              show _ ∧ _
              rw [e2.bad, e2.tr]; exact ⟨by decide, by omega⟩
            clear e2 ew2 HK2 hkk
            have hnp : (n : Int) - 1 = ((n - 1 : Nat) : Int) := by omega
            have HNP := Mm.hid hnp
            clear hnp
            go_upto_region 37 with (fail)
            go_cut [168] from 158 to 168 (fun t wc => t = .bool (entB es (n - 1)) ∧ wr = wc)
            case first =>
              by_cases hl3 : n ≤ N
              · obtain ⟨b, hb⟩ : ∃ b, es[n - 1]? = some b := ⟨_, List.getElem?_eq_getElem (by rw [LN.out]; omega)⟩
                have HE := Mm.hid (entB_at hb)
                obtain ⟨ad, rfl, _, f1⟩ := (R.out.below BN.out).cell (fBl_get hb)
                clear hb EE E2' RB
                have hp0 : (0 : Int) ≤ (n : Int) - 1 := by omega
                have hp1 : (n : Int) - 1 < (N : Int) := by omega
                have hpt : ((n : Int) - 1).toNat = n - 1 := by omega
                go_wp2_with fail
                go_meet
                exact ⟨by rw [HE.out], rfl⟩
              · have HE : Hid (entB es (n - 1) = false) := entB_out (by rw [LN.out]; omega)
                have hd3 : N < n := by omega
                have hd4 : decide ((n : Int) ≤ (N : Int)) = false := decide_eq_false (by omega)
                clear EE E2' RB hl3
                first
                  | (exfalso; omega)
                  | (go_wp2_with fail
                     go_meet
                     exact ⟨by rw [HE.out], rfl⟩)
            case rest =>
              obtain ⟨rfl, rfl⟩ := hcut
              obtain ⟨bb, hbb⟩ : ∃ bb, entB es (n - 1) = bb := ⟨_, rfl⟩
              have BB := Mm.hid hbb
              rw [hbb]
              clear hbb
              go_upto_if 168 with (fail)
              go_cut [7, 15] from 168 to 184 (fun ok v wc => ok = .bool true ∧ Hid (∃ (l : List Acc) (S : Cm), S.tr = l ∧ l.length ≤ 200 ∧ EW w1.heap.size g w1 n sl gr (f + 1) (n : Int) v l S wc))
              case first =>
                cases bb
                · have FN : Hid (∃ (l : List Acc) (S : Cm), S.tr = l ∧ l.length ≤ 200 ∧ EW w1.heap.size g w1 n sl gr (f + 1) (n : Int) u15 l S wr) := ⟨l2, S2, EE.out.tr, by omega, E2'.out⟩
                  go_wp2_with fail
                  go_meet
                  exact ⟨rfl, FN⟩
                · obtain ⟨d1, d2, d3⟩ := EE.out.leave (m := n - 1) (by omega) hf1 BB.out
                  have D2 := Mm.hid d2
                  have CL := Mm.hid (ew_leave E2'.out d1 (by omega) hn2 RB.out.1 RB.out.2)
                  rw [← HNP.out] at CL D2
                  clear d1 d2 d3 EE E2'
                  go_wp2_with fail
                  refine (CL.out).mono ?_
                  rintro e wa ⟨rfl, ha⟩
                  have EA := Mm.hid ha
                  clear ha CL
                  obtain ⟨G, _, _, _, _, hrow⟩ := EA.out.out
                  obtain ⟨A1, c1, rfl, hc1, _, _⟩ := own_slice hrow
                  have HR := Mm.hid hrow
                  have hsz := EA.out.le
                  clear hrow
                  obtain ⟨m, hm⟩ : ∃ m, l2.length = m := ⟨_, rfl⟩
                  rw [hm] at HR hc1 EA hl2
                  have HM := Mm.hid hm
                  have hl40 : Hid ((m + 1) * 40 ≤ 140737488355328) := Mm.hid (by omega)
                  rw [hm]
                  clear hm
                  have HO : Hid (∀ u ∈ (#[Value.int .i8 2, .int .i64 ((n : Int) - 1), .int .i64 0, .int .i64 (f + 1), .bool true] : Array Value).toList, u.oneCell' = true) := by intro u hu; simp at hu; rcases hu with rfl | rfl | rfl | rfl | rfl <;> rfl
                  go_wp2_with (at_builtin; go_must (refine wp_ape1 w1.heap.size rfl (.tmp 177) (.tmp 183) 41 47 (.agg #[.int .i8 0, .int .i64 0, .int .i64 0, .int .i64 0, .bool false]) 5 40 #[Value.int .i8 2, .int .i64 ((n : Int) - 1), .int .i64 0, .int .i64 (f + 1), .bool true] rfl Try.underlying41 info47 rfl (by decide) (by decide) (.slice A1 m c1) m _ rfl rfl rfl HO.out HR.out (Below.refl _ _) hsz hl40.out ?_; intro v1 wb k1 k2' k3 k4; have K1 := Mm.hid k1; have K3 := Mm.hid k3; have K4 := Mm.hid (k4_of k4); clear k1 k2' k3 k4))
                  all_goals (
                    have FN : Hid (∃ (l : List Acc) (S : Cm), S.tr = l ∧ l.length ≤ 200 ∧ EW w1.heap.size g w1 n sl gr (f + 1) (n : Int) v1 l S wb) := ⟨_, _, D2.out, by simp; have := HM.out; omega, EA.out.push (ys := [⟨2, (n : Int) - 1, 0, f + 1, true⟩]) (by rw [HM.out]; exact K1.out) K3.out K4.out⟩
                    go_meet
                    exact ⟨rfl, FN⟩)
              case rest =>
                obtain ⟨rfl, HF⟩ := hcut
                obtain ⟨l3, S3, t3, hl3, ew3⟩ := HF.out
                have EF := Mm.hid ew3
                have T3 := Mm.hid t3
                clear ew3 t3 HF EE E2' RB BB
                go_wp2_with fail
                refine (ew_over EF.out rfl).mono ?_
                rintro e wb ⟨rfl, hb⟩
                obtain ⟨G, hG, _, _, _, hrow⟩ := hb.out
                obtain ⟨Fg, fg, bg, _⟩ := hG.out
                obtain ⟨A1, c1, rfl, hc1, _, _⟩ := own_slice hrow
                have HR := Mm.hid hrow
                have MG := Mm.hid fg
                have BG := Mm.hid bg
                obtain ⟨m, hm⟩ : ∃ m, l3.length = m := ⟨_, rfl⟩
                have hm3 : m ≤ 200 := by omega
                rw [hm] at HR hc1 ⊢
                have HM : Hid (S3.tr.length = m) := by show _ = _; rw [T3.out, hm]
                clear hb hG hrow fg bg EF hm
                go_wp2_with fail
                refine (trace_any w1.heap.size g Fg S3 _ MG.out (by rw [HM.out]; omega)).mono ?_
                rintro e wc ⟨A3, m3, k3, rfl, hk3, O3⟩
                obtain ⟨o1, o2, o3⟩ := O3.out
                rw [HM.out] at o1
                subst o1
                have K9 := Mm.hid (Rd.of_own o2)
                have R9 : Hid (Rd wc A1 m 5 (S3.tr.flatMap fAcc)) := by
                  show Rd _ _ _ _ _
                  rw [T3.out]
                  exact (Fr.of_below o3).rd (Rd.of_own HR.out) fun _ _ h => h
                have B9 := Mm.hid (B1.out.trans (BG.out.mono B1.out.size |>.trans (o3.mono (by have := B1.out.size; have := BG.out.size; omega))))
                clear o2 o3 O3 HR MG BG
                go_wp2_with fail
                refine (traces_any A3 A1 m k3 c1 S3.tr _ K9.out R9.out HM.out (by omega)).mono ?_
                rintro e wd ⟨rfl, hd⟩
                have BD := Mm.hid (B9.out.trans (hd.mono B9.out.size))
                clear hd
                go_wp2
                go_ret
                exact ⟨by simp, BD.out⟩)
end Go.Proofs.Ytkbobgblohohcaa

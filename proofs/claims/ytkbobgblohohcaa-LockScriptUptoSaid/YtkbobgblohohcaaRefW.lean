/- Walk: the law CellsScript. -/
import Derived.Test.YtkbobgblohohcaaRefG
import Derived.Test.YtkbobgblohohcaaOne
namespace Go.Proofs.Ytkbobgblohohcaa
open Go.RowKit Go.Mm Go.Cells
theorem frB {B : Nat} {w w1 : World} (h : Below B w w1) : Fr (fun k => B ≤ k) w w1 := ⟨h.os, h.tape, h.output, h.size, fun k _ hk => h.block k (by omega)⟩
theorem MemB.down {base base' g : Nat} {F : Nat → Prop} {w : World} {S : Cm} (h : MemB base F w g S) (hb : base' ≤ base) : MemB base' F w g S := by
  obtain ⟨vW, vT, h1, h2, h3, h4, h5⟩ := h.out
  exact ⟨⟨vW, vT, h1, own_mono h2 hb, own_mono h3 hb, h4, h5⟩, h.fg, fun k hk => ⟨Nat.le_trans hb (h.lt k hk).1, (h.lt k hk).2⟩, h.wl⟩
/-- two pairs, apart -/
structure Two (base : Nat) (w0 : World) (n g r g2 r2 k : Nat) (w : World) : Prop where mk ::
  out : ∃ (F1 F2 : Nat → Prop) (S1 S2 : Cm), PB base F1 w g r k S1 ∧ PB base F2 w g2 r2 k S2 ∧ (∀ j, F1 j → ¬ F2 j) ∧ Below base w0 w ∧ (S1.ws.length = n ∧ S1.tr.length ≤ k ∧ S1.bad ≤ k) ∧ (S2.ws.length = n ∧ S2.tr.length ≤ k ∧ S2.bad ≤ k)
section
variable {base n g r g2 r2 k lb : Nat} {w0 w w1 : World} {F1 F2 : Nat → Prop} {S S1 S2 S' : Cm}
theorem pt_two (h2 : PB base F2 w g2 r2 lb S2) (hd : ∀ j, F1 j → ¬ F2 j) (t : PT base F1 w g r (k + 1) S' w1) (hB : Below base w0 w) (hF1 : ∀ j, F1 j → base ≤ j) (hle : base ≤ w.heap.size) : ∃ F', PB base F' w1 g r (k + 1) S' ∧ PB base F2 w1 g2 r2 lb S2 ∧ (∀ j, F' j → ¬ F2 j) ∧ Below base w0 w1 := by
  obtain ⟨F', m, hs, hf⟩ := t.out
  refine ⟨F', m, h2.fr hf fun j hj hj' => hd j hj' hj, fun j hj hj' => ?_, hB.trans (hf.below hF1 hle)⟩
  rcases hs j hj with h | h
  · exact hd j h hj'
  · have := (h2.fl j hj').2; omega
end
theorem rnew {w : World} {base n : Nat} (hb : base ≤ w.heap.size) (hn : n ≤ 65536) : RMem base (fun k => k = w.heap.size) (w.alloc (.cells #[.int .i64 (n : Int), .slice none 0 0, .slice none 0 0, .int .i64 0] 141)) w.heap.size 0 (Cm.new n) := by
  refine ⟨⟨.slice none 0 0, .slice none 0 0, [], ?_, ⟨rfl, .inl ⟨rfl, rfl⟩⟩, ⟨rfl, .inl ⟨rfl, rfl⟩⟩, (fun b e => by cases e), (fun b e => by cases e), LogOK.new n, Nat.le_refl _⟩, rfl, fun k hk => ⟨by omega, by simp; omega⟩, by simpa [Cm.new] using hn⟩
  have := Blk.new w #[.int .i64 (n : Int), .slice none 0 0, .slice none 0 0, .int .i64 0] 141
  simpa [Cm.new] using this
theorem ref_bad (n : Int) (w : World) (h : n < 1 ∨ 65536 < n) : Calls Try.prog 33 #[.int .i64 n] w fun e w' => e = .returned (.tuple #[.pointer none, .int .i64 3]) ∧ w = w' := by
  rcases h with h | h
  · go_enter Try.func33, Try.ntmps33
    go_wp2
    go_ret2
    exact ⟨rfl, rfl⟩
  · have h' : ¬ n < 1 := by omega
    go_enter Try.func33, Try.ntmps33
    go_wp2
    go_ret2
    exact ⟨rfl, rfl⟩
set_option maxRecDepth 100000 in
set_option maxHeartbeats 8000000 in
theorem law_cellsscript (x : Int) (A : Option Addr) (N c : Nat) (xs : List Stp) (A2 : Option Addr) (N2 c2 : Nat) (ys : List Stp) (w : World) (_ : (Lit.int .i64 x).wf = true) (h : Sl w 9 72 fX gX A N c xs) (h2 : Sl w 9 72 fX gX A2 N2 c2 ys) :
    Calls Try.prog 10 #[.int .i64 x, .slice A N c, .slice A2 N2 c2] w fun e w' => e = .returned (.bool true) ∧ Below w.heap.size w w' := by
  have R := Mm.hid h.rd
  have LN := Mm.hid h.len
  have GD := Mm.hid h.good
  have hcap : N ≤ c := h.cap
  have hroom : N ≤ 1954687338268 := by have := h.room; omega
  have R2 := Mm.hid h2.rd
  have LN2 := Mm.hid h2.len
  have GD2 := Mm.hid h2.good
  have hcap2 : N2 ≤ c2 := h2.cap
  have hroom2 : N2 ≤ 1954687338268 := by have := h2.room; omega
  clear h h2
  by_cases hx : x < 1 ∨ 65536 < x
  · have HX := Mm.hid hx
    clear hx
    go_enter Try.func10, Try.ntmps10
    go_wp2_with fail
    refine (new_bad x _ HX.out).mono ?_
    rintro e w1 ⟨rfl, rfl⟩
    go_wp2_with fail
    refine (ref_bad x _ HX.out).mono ?_
    rintro e w1 ⟨rfl, rfl⟩
    go_wp2_with fail
    refine (new_bad x _ HX.out).mono ?_
    rintro e w1 ⟨rfl, rfl⟩
    go_wp2_with fail
    refine (ref_bad x _ HX.out).mono ?_
    rintro e w1 ⟨rfl, rfl⟩
    go_wp2
    go_ret
    exact ⟨rfl, Below.refl _ _⟩
  obtain ⟨n, rfl⟩ := Int.eq_ofNat_of_zero_le (show 0 ≤ x by omega)
  have hn1 : 1 ≤ n := by omega
  have hn2 : n ≤ 65536 := by omega
  clear hx
  go_enter Try.func10, Try.ntmps10
  go_wp2_with fail
  refine (new_good n _ hn1 hn2).mono ?_
  rintro e w1 ⟨g, rfl, N1⟩
  go_wp2_with fail
  refine (ref_mem n _ hn1 hn2).mono ?_
  rintro e w2 ⟨rfl, hw2⟩
  obtain ⟨i1, i2, i3⟩ := N1.out
  have hs1 : w.heap.size ≤ w1.heap.size := i3.size
  have BA : Below w1.heap.size w1 w2 := by rw [hw2]; exact (Below.refl _ _).alloc (Nat.le_refl _) _
  have Q2 : RMem w.heap.size (fun k => k = w1.heap.size) w2 w1.heap.size 0 (Cm.new n) := by rw [hw2]; exact rnew hs1 hn2
  have hs2 : w2.heap.size = w1.heap.size + 1 := by rw [hw2]; simp
  have P2 : Hid (PB w.heap.size (fun k => w.heap.size ≤ k ∧ k < w2.heap.size) w2 g w1.heap.size 0 (Cm.new n)) := ⟨⟨_, _, i2.below BA, Q2, (fun k hk hk' => by omega), fun k hk => by rcases hk with hk | hk <;> omega⟩, fun k hk => hk⟩
  have B2 := Mm.hid (i3.trans (BA.mono hs1))
  clear i1 i2 i3 N1 BA Q2 hw2
  generalize w1.heap.size = r at *
  go_wp2_with fail
  refine (new_good n _ hn1 hn2).mono ?_
  rintro e w3 ⟨g2, rfl, N3⟩
  go_wp2_with fail
  refine (ref_mem n _ hn1 hn2).mono ?_
  rintro e w4 ⟨rfl, hw4⟩
  obtain ⟨i1, i2, i3⟩ := N3.out
  have hs3 : w2.heap.size ≤ w3.heap.size := i3.size
  have hs02 : w.heap.size ≤ w2.heap.size := B2.out.size
  have BA : Below w3.heap.size w3 w4 := by rw [hw4]; exact (Below.refl _ _).alloc (Nat.le_refl _) _
  have Q2 : RMem w.heap.size (fun k => k = w3.heap.size) w4 w3.heap.size 0 (Cm.new n) := by rw [hw4]; exact rnew (by omega) hn2
  have hs4 : w4.heap.size = w3.heap.size + 1 := by rw [hw4]; simp
  have P4 : PB w.heap.size (fun k => w2.heap.size ≤ k ∧ k < w4.heap.size) w4 g2 w3.heap.size 0 (Cm.new n) := ⟨⟨_, _, (i2.down hs02).below BA, Q2, (fun k hk hk' => by omega), fun k hk => by rcases hk with hk | hk <;> omega⟩, fun k hk => ⟨by omega, hk.2⟩⟩
  have B4 : Below w2.heap.size w2 w4 := i3.trans (BA.mono hs3)
  have ST : Hid (Two w.heap.size w n g r g2 w3.heap.size 0 w4) := ⟨_, _, _, _, P2.out.below B4, P4, (fun j hj hj' => by omega), B2.out.trans (B4.mono hs02), ⟨by simp [Cm.new], Nat.le_refl _, Nat.le_refl _⟩, ⟨by simp [Cm.new], Nat.le_refl _, Nat.le_refl _⟩⟩
  clear i1 i2 i3 N3 BA Q2 hw4 P4 B4 P2 B2 hs3 hs4 hs02 hs1 hs2
  generalize w3.heap.size = r2 at *
  go_wp2_with fail
  go_loopw [15, 16, 17] (fun i _ _ wr => ∃ k : Nat, (k ≤ N ∨ k ≤ N2) ∧ i = .int .i64 (k : Nat) ∧ Hid (Two w.heap.size w n g r g2 r2 k wr)) (fun i _ _ _ => N + N2 - (intOf i).toNat)
  case atStart => exact ⟨0, .inl (Nat.zero_le _), rfl, ST.out⟩
  case round =>
    obtain ⟨k, hk, rfl, HK⟩ := hrel
    clear ST
    have hk1 : k ≤ 1954687338268 := by omega
    by_cases hlt : k < N
    · by_cases hlt2 : k < N2
      · obtain ⟨F1, F2, S1, S2, p1, p2, hd, hB, ⟨z1, z2, z3⟩, z4, z5, z6⟩ := HK.out.out
        have P1 := Mm.hid p1
        have P2 := Mm.hid p2
        have HD := Mm.hid hd
        have BW := Mm.hid hB
        have Z1 := Mm.hid (And.intro z1 (And.intro z2 z3))
        have Z2 := Mm.hid (And.intro z4 (And.intro z5 z6))
        have hle := hB.size
        clear p1 p2 hd hB z1 z2 z3 z4 z5 z6 HK
        have m24 : Hid ((k + 1) * 24 ≤ 140737488355328) := by show _ ≤ _; omega
        obtain ⟨q, hq⟩ : ∃ q, xs[k]? = some q := ⟨_, List.getElem?_eq_getElem (by rw [LN.out]; exact hlt)⟩
        obtain ⟨ad, rfl, _, f0, f1, f2, f3, f4, f5, f6, f7, f8⟩ := rd_stp (R.out.below BW.out) LN.out hq
        have GQ := Mm.hid (GD.out q (List.mem_of_getElem? hq))
        have T1 : Hid ((S1.tr.length + 20) * 40 ≤ 140737488355328) := Nat.le_trans (Nat.mul_le_mul_right 40 (Nat.add_le_add_right Z1.out.2.1 20)) (by omega)
        have SL := Mm.hid (stepC_le S1 q)
        clear hq
        go_wp2_with fail
        refine (step14_any q P1.out GQ.out (by have := Z1.out.2.2; omega) T1.out m24.out).mono ?_
        rintro e w5 ⟨rfl, t5⟩
        obtain ⟨F1', p1', p2', hd', hB'⟩ := pt_two P2.out HD.out t5 BW.out (fun j hj => (P1.out.fl j hj).1) hle
        have Y1 : Hid ((stepC S1 q).ws.length = n ∧ (stepC S1 q).tr.length ≤ k + 1 ∧ (stepC S1 q).bad ≤ k + 1) := by
          obtain ⟨a1, a2, a3⟩ := SL.out
          obtain ⟨b1, b2, b3⟩ := Z1.out
          exact ⟨by omega, by omega, by omega⟩
        have P1' := Mm.hid p1'
        have P2' := Mm.hid p2'
        have HD' := Mm.hid hd'
        have BW' := Mm.hid hB'
        have hle' := hB'.size
        clear p1' p2' hd' hB' t5 P1 P2 HD BW f0 f1 f2 f3 f4 f5 f6 f7 f8
        obtain ⟨q', hq⟩ : ∃ q, ys[k]? = some q := ⟨_, List.getElem?_eq_getElem (by rw [LN2.out]; exact hlt2)⟩
        obtain ⟨ad2, rfl, _, f0, f1, f2, f3, f4, f5, f6, f7, f8⟩ := rd_stp (R2.out.below BW'.out) LN2.out hq
        have GQ' := Mm.hid (GD2.out q' (List.mem_of_getElem? hq))
        have T2 : Hid ((S2.tr.length + 20) * 40 ≤ 140737488355328) := Nat.le_trans (Nat.mul_le_mul_right 40 (Nat.add_le_add_right Z2.out.2.1 20)) (by omega)
        have SL' := Mm.hid (stepC_le S2 q')
        clear hq
        go_wp2_with fail
        refine (step14_any q' P2'.out GQ'.out (by have := Z2.out.2.2; omega) T2.out m24.out).mono ?_
        rintro e w6 ⟨rfl, t6⟩
        obtain ⟨F2', p2', p1', hd', hB'⟩ := pt_two P1'.out (fun j hj hj' => HD'.out j hj' hj) t6 BW'.out (fun j hj => (P2'.out.fl j hj).1) hle'
        have Y2 : Hid ((stepC S2 q').ws.length = n ∧ (stepC S2 q').tr.length ≤ k + 1 ∧ (stepC S2 q').bad ≤ k + 1) := by
          obtain ⟨a1, a2, a3⟩ := SL'.out
          obtain ⟨b1, b2, b3⟩ := Z2.out
          exact ⟨by omega, by omega, by omega⟩
        have FN : Hid (Two w.heap.size w n g r g2 r2 (k + 1) w6) := ⟨_, _, _, _, p1', p2', (fun j hj hj' => hd' j hj' hj), hB', Y1.out, Y2.out⟩
        clear p1' p2' hd' hB' t6 f0 f1 f2 f3 f4 f5 f6 f7 f8
        go_wp2
        go_roundw
        case rel => exact ⟨k + 1, by omega, by go_num, FN.out⟩
        case measure => simp [intOf] <;> omega
      · obtain ⟨F1, F2, S1, S2, p1, p2, hd, hB, ⟨z1, z2, z3⟩, z4, z5, z6⟩ := HK.out.out
        have P1 := Mm.hid p1
        have P2 := Mm.hid p2
        have HD := Mm.hid hd
        have BW := Mm.hid hB
        have Z1 := Mm.hid (And.intro z1 (And.intro z2 z3))
        have Z2 := Mm.hid (And.intro z4 (And.intro z5 z6))
        have hle := hB.size
        clear p1 p2 hd hB z1 z2 z3 z4 z5 z6 HK
        have m24 : Hid ((k + 1) * 24 ≤ 140737488355328) := by show _ ≤ _; omega
        obtain ⟨q, hq⟩ : ∃ q, xs[k]? = some q := ⟨_, List.getElem?_eq_getElem (by rw [LN.out]; exact hlt)⟩
        obtain ⟨ad, rfl, _, f0, f1, f2, f3, f4, f5, f6, f7, f8⟩ := rd_stp (R.out.below BW.out) LN.out hq
        have GQ := Mm.hid (GD.out q (List.mem_of_getElem? hq))
        have T1 : Hid ((S1.tr.length + 20) * 40 ≤ 140737488355328) := Nat.le_trans (Nat.mul_le_mul_right 40 (Nat.add_le_add_right Z1.out.2.1 20)) (by omega)
        have SL := Mm.hid (stepC_le S1 q)
        clear hq
        go_wp2_with fail
        refine (step14_any q P1.out GQ.out (by have := Z1.out.2.2; omega) T1.out m24.out).mono ?_
        rintro e w5 ⟨rfl, t5⟩
        obtain ⟨F1', p1', p2', hd', hB'⟩ := pt_two P2.out HD.out t5 BW.out (fun j hj => (P1.out.fl j hj).1) hle
        have Y1 : Hid ((stepC S1 q).ws.length = n ∧ (stepC S1 q).tr.length ≤ k + 1 ∧ (stepC S1 q).bad ≤ k + 1) := by
          obtain ⟨a1, a2, a3⟩ := SL.out
          obtain ⟨b1, b2, b3⟩ := Z1.out
          exact ⟨by omega, by omega, by omega⟩
        have FN : Hid (Two w.heap.size w n g r g2 r2 (k + 1) w5) := ⟨_, _, _, _, p1', p2'.mono (Nat.le_succ k), hd', hB', Y1.out, by have := Z2.out; omega⟩
        clear p1' p2' hd' hB' t5 f0 f1 f2 f3 f4 f5 f6 f7 f8
        go_wp2
        go_roundw
        case rel => exact ⟨k + 1, by omega, by go_num, FN.out⟩
        case measure => simp [intOf] <;> omega
    · by_cases hlt2 : k < N2
      · obtain ⟨F1, F2, S1, S2, p1, p2, hd, hB, ⟨z1, z2, z3⟩, z4, z5, z6⟩ := HK.out.out
        have P1 := Mm.hid p1
        have P2 := Mm.hid p2
        have HD := Mm.hid hd
        have BW := Mm.hid hB
        have Z1 := Mm.hid (And.intro z1 (And.intro z2 z3))
        have Z2 := Mm.hid (And.intro z4 (And.intro z5 z6))
        have hle := hB.size
        clear p1 p2 hd hB z1 z2 z3 z4 z5 z6 HK
        have m24 : Hid ((k + 1) * 24 ≤ 140737488355328) := by show _ ≤ _; omega
        obtain ⟨q, hq⟩ : ∃ q, ys[k]? = some q := ⟨_, List.getElem?_eq_getElem (by rw [LN2.out]; exact hlt2)⟩
        obtain ⟨ad, rfl, _, f0, f1, f2, f3, f4, f5, f6, f7, f8⟩ := rd_stp (R2.out.below BW.out) LN2.out hq
        have GQ := Mm.hid (GD2.out q (List.mem_of_getElem? hq))
        have T1 : Hid ((S2.tr.length + 20) * 40 ≤ 140737488355328) := Nat.le_trans (Nat.mul_le_mul_right 40 (Nat.add_le_add_right Z2.out.2.1 20)) (by omega)
        have SL := Mm.hid (stepC_le S2 q)
        clear hq
        go_wp2_with fail
        refine (step14_any q P2.out GQ.out (by have := Z2.out.2.2; omega) T1.out m24.out).mono ?_
        rintro e w5 ⟨rfl, t5⟩
        obtain ⟨F2', p2', p1', hd', hB'⟩ := pt_two P1.out (fun j hj hj' => HD.out j hj' hj) t5 BW.out (fun j hj => (P2.out.fl j hj).1) hle
        have Y2 : Hid ((stepC S2 q).ws.length = n ∧ (stepC S2 q).tr.length ≤ k + 1 ∧ (stepC S2 q).bad ≤ k + 1) := by
          obtain ⟨a1, a2, a3⟩ := SL.out
          obtain ⟨b1, b2, b3⟩ := Z2.out
          exact ⟨by omega, by omega, by omega⟩
        have FN : Hid (Two w.heap.size w n g r g2 r2 (k + 1) w5) := ⟨_, _, _, _, p1'.mono (Nat.le_succ k), p2', (fun j hj hj' => hd' j hj' hj), hB', by have := Z1.out; omega, Y2.out⟩
        clear p1' p2' hd' hB' t5 f0 f1 f2 f3 f4 f5 f6 f7 f8
        go_wp2
        go_roundw
        case rel => exact ⟨k + 1, by omega, by go_num, FN.out⟩
        case measure => simp [intOf] <;> omega
      · obtain ⟨F1, F2, S1, S2, p1, p2, hd, hB, ⟨z1, z2, z3⟩, z4, z5, z6⟩ := HK.out.out
        have P1 := Mm.hid p1
        have P2 := Mm.hid p2
        have HD := Mm.hid hd
        have BW := Mm.hid hB
        have Z1 := Mm.hid (And.intro z1 (And.intro z2 z3))
        have Z2 := Mm.hid (And.intro z4 (And.intro z5 z6))
        have hle := hB.size
        clear p1 p2 hd hB z1 z2 z3 z4 z5 z6 HK
        have m24 : Hid ((k + 1) * 24 ≤ 140737488355328) := by show _ ≤ _; omega
        obtain ⟨Fm, Fq, hm, hr, hdm, hF⟩ := P1.out.out
        obtain ⟨Gm, Gq, hm2, hr2, _, hG⟩ := P2.out.out
        obtain ⟨T, hT⟩ : ∃ T, S1.tr.length = T := ⟨_, rfl⟩
        have TT := Mm.hid hT
        have hTk : T ≤ k := by rw [← hT]; exact Z1.out.2.1
        have NW := Mm.hid Z1.out.1
        have M0 := Mm.hid hm
        have Q0 := Mm.hid hr
        have M2 := Mm.hid hm2
        have Q2 := Mm.hid hr2
        have DM := Mm.hid hdm
        have DG : Hid (∀ j, Fm j → ¬ Gm j ∧ ¬ Gq j) := fun j hj => ⟨fun h => HD.out j (hF j (.inl hj)) (hG j (.inl h)), fun h => HD.out j (hF j (.inl hj)) (hG j (.inr h))⟩
        have WD : Hid (S1.within 0 (n : Int) = true) := by show _ = _; rw [within_iff, NW.out]; omega
        have WC : Hid (S1.code 0 (n : Int) = 0) := if_pos WD.out
        have hT40 : Hid ((T + 20) * 40 ≤ 140737488355328) := by show _ ≤ _; omega
        have hbd : S1.bad ≤ k := Z1.out.2.2
        clear hm hr hm2 hr2 hdm hF hG hT P1 P2 HD Z1 Z2
        go_wp2_with fail
        refine (trace_any w.heap.size g Fm S1 _ M0.out (by rw [TT.out]; have := hT40.out; omega)).mono ?_
        rintro e w1 ⟨A3, m3, k3, rfl, hk3, O3⟩
        obtain ⟨o1, o2, o3⟩ := O3.out
        rw [TT.out] at o1
        subst o1
        have B1 := Mm.hid o3
        have K1 := Mm.hid o2
        have M1 := Mm.hid (M0.out.below o3)
        have hs1 := o3.size
        clear o2 o3 O3
        go_wp2_with fail
        refine (words_any w.heap.size g Fm S1 0 (n : Int) _ M1.out (by omega)).mono ?_
        rintro e w2 ⟨A4, m4, k4, rfl, hk4, O4⟩
        obtain ⟨o1, o2, o3⟩ := O4.out
        have W2 := Mm.hid o2
        have L2 := Mm.hid o1
        have B2 := Mm.hid o3
        have K2 := Mm.hid ((Fr.of_below o3).own K1.out (fun _ _ h => h))
        have M2' := Mm.hid (M1.out.below o3)
        have hs2 := o3.size
        clear o1 o2 o3 O4
        go_wp2_with fail
        refine (trace_any w.heap.size g Fm S1 _ M2'.out (by rw [TT.out]; have := hT40.out; omega)).mono ?_
        rintro e w3 ⟨A5, m5, k5, rfl, hk5, O5⟩
        obtain ⟨o1, o2, o3⟩ := O5.out
        rw [TT.out] at o1
        subst o1
        have B3 := Mm.hid o3
        have K3 := Mm.hid o2
        have hs3 := o3.size
        clear o2 o3 O5
        go_wp2_with fail
        refine (owntrace_any w2.heap.size A5 T k5 S1.tr _ K3.out TT.out hs3 hT40.out).mono ?_
        rintro e w4 ⟨rfl, hf4⟩
        have B4 := Mm.hid (B3.out.trans (hf4.below (fun j hj => (K3.out.lt j hj).1) hs3))
        have M4 := Mm.hid (M2'.out.below B4.out)
        have hs4 : w2.heap.size ≤ w4.heap.size := B4.out.size
        have hle4 : w.heap.size ≤ w4.heap.size := by omega
        clear hf4 B3 K3
        go_wp2_with fail
        refine (store_any w.heap.size g Fm S1 ((0 : Nat) : Int) _ 12345 M4.out hle4 (by omega) (by rw [TT.out]; have := hT40.out; omega)).mono ?_
        rintro e w5 ⟨rfl, t5⟩
        obtain ⟨Fs, ms, hss, hfs⟩ := t5.out
        have M5 := Mm.hid ms
        have FS := Mm.hid hfs
        have hs5 := hfs.size
        clear ms hss hfs t5
        go_wp2_with fail
        refine (words_any w.heap.size g Fs _ 0 (n : Int) _ M5.out (by omega)).mono ?_
        rintro e w6 ⟨A6, m6, k6, rfl, hk6, O6⟩
        obtain ⟨o1, o2, o3⟩ := O6.out
        have W6 := Mm.hid o2
        have B6 := Mm.hid o3
        have M6 := Mm.hid (M5.out.below o3)
        have hs6 := o3.size
        have hm6 : Hid ((m6 + 20) * 8 ≤ 140737488355328) := by
          show _ ≤ _
          have h1 := words_le (S1.store ((0 : Nat) : Int) 12345) 0 (n : Int)
          have h2 := M5.out.wl
          omega
        clear o1 o2 o3 O6
        go_wp2_with fail
        refine (ownwords_any w5.heap.size A6 m6 k6 _ _ W6.out hs6 hm6.out).mono ?_
        rintro e w7 ⟨rfl, hf7⟩
        have hs7 := hf7.size
        have B7 := Mm.hid (hf7.below (fun j hj => (W6.out.lt j hj).1) hs6)
        have M7 := Mm.hid (M6.out.fr hf7 fun j hj hj' => by have := (M5.out.lt j hj).2; have := (W6.out.lt j hj').1; omega)
        have ALL : Hid (Fr (fun j => Fm j ∨ w2.heap.size ≤ j) w2 w7) := by
          have q1 := (frB B4.out).mono (T := fun j => Fm j ∨ w2.heap.size ≤ j) fun j hj => .inr hj
          have q2 := q1.trans FS.out fun j _ hj => .inl hj
          have q3 := q2.trans (frB B6.out) fun j hj hj' => by omega
          exact q3.trans (frB B7.out) fun j hj hj' => by omega
        have QR7 := Mm.hid (((Q0.out.below B1.out).below B2.out).fr ALL.out fun j hj hj' => by
          have := (Q0.out.lt j hj).2
          rcases hj' with h | h
          · exact DM.out j h hj
          · omega)
        clear hf7 B7 W6 M6
        go_wp2_with fail
        refine (rwords_any 0 (n : Int) QR7.out (by omega) (by omega)).mono ?_
        rintro e w8 ⟨A8, m8, k8, rfl, hk8, O8⟩
        obtain ⟨o1, o2, o3⟩ := O8.out
        have W8 := Mm.hid o2
        have B8 := Mm.hid o3
        have hmm : m8 = m4 := by have := L2.out; omega
        subst hmm
        have ALL8 := Mm.hid (ALL.out.trans (Fr.of_below o3) fun _ _ h => h.elim)
        have QR8 := Mm.hid (QR7.out.below o3)
        have M8 := Mm.hid (M7.out.below o3)
        have hs8 := o3.size
        have KK : Hid (Rd w8 A3 T 5 (S1.tr.flatMap fAcc)) := Rd.of_own (ALL8.out.own K2.out fun j hj hj' => by
          have h1 := K1.out.lt j hj
          rcases hj' with h | h
          · have := (M0.out.lt j h).2; omega
          · have := h1.2; omega)
        have WW : Hid (Rd w8 A4 m8 1 (iL (S1.words 0 (n : Int)))) := Rd.of_own (ALL8.out.own W2.out fun j hj hj' => by
          have h1 := W2.out.lt j hj
          rcases hj' with h | h
          · have := (M0.out.lt j h).2; omega
          · omega)
        have NM := Mm.hid ((((M2.out.below B1.out).below B2.out).fr ALL8.out fun j hj hj' => by
          have := (M2.out.lt j hj).2
          rcases hj' with h | h
          · exact (DG.out j h).1 hj
          · omega))
        have NQ := Mm.hid ((((Q2.out.below B1.out).below B2.out).fr ALL8.out fun j hj hj' => by
          have := (Q2.out.lt j hj).2
          rcases hj' with h | h
          · exact (DG.out j h).2 hj
          · omega))
        have BF : Hid (Below w.heap.size w w8) := BW.out.trans (B1.out.mono (by omega) |>.trans ((B2.out.mono (by omega)).trans (ALL8.out.below (fun j hj => by
          rcases hj with h | h
          · exact (M0.out.lt j h).1
          · omega) (by omega))))
        have hb8 : Hid (S1.bad ≤ (S1.store ((0 : Nat) : Int) 12345).bad) := by show S1.bad ≤ S1.looked _; unfold Cm.looked; split <;> omega
        obtain ⟨b9, hb9⟩ : ∃ b, (S1.store ((0 : Nat) : Int) 12345).bad = b := ⟨_, rfl⟩
        have B9 := Mm.hid hb9
        rw [hb9] at hb8
        have hb8' : S1.bad ≤ b9 := hb8.out
        have LWS : Hid ((S1.store ((0 : Nat) : Int) 12345).ws.length = n) := by show _ = _; rw [← NW.out]; exact (op_le S1 ((0 : Nat) : Int) 12345 0).2.1.2.2
        have hb9k : b9 ≤ k + 1 := by rw [← hb9]; have := (op_le S1 ((0 : Nat) : Int) 12345 0).2.1.2.1; omega
        clear o1 o2 o3 O8 ALL ALL8 QR7 M7 M5 FS M4 M2' M1 M0 Q0 K1 K2 W2 B1 B2 B4 B6 hb9
        go_wp2_with fail
        refine (rtrace_any QR8.out TT.out).mono ?_
        rintro e w8' ⟨A9, k9, rfl, hk9, R9, rfl⟩
        go_wp2_with fail
        refine (entries_any A3 A9 T k3 k9 S1.tr _ KK.out R9.out TT.out (by have := hT40.out; omega)).mono ?_
        rintro e w9 ⟨rfl, h9⟩
        have M9 := Mm.hid (M8.out.below h9)
        have Q9 := Mm.hid (QR8.out.below h9)
        have NM9 := Mm.hid (NM.out.below h9)
        have NQ9 := Mm.hid (NQ.out.below h9)
        have WW9 := Mm.hid ((Fr.of_below h9).rd WW.out (fun _ _ h => h))
        have W89 := Mm.hid ((Fr.of_below h9).own W8.out (fun _ _ h => h))
        have BF9 := Mm.hid (BF.out.trans (h9.mono (by have := BF.out.size; omega)))
        clear h9 M8 QR8 NM NQ WW W8 BF KK R9
        go_wp2_with fail
        refine (same_any A4 m8 k4 A8 m8 k8 _ _ _ WW9.out (Rd.of_own W89.out) hk4 hk8 (by have := L2.out; have := words_le S1 0 (n : Int); have := NW.out; omega)).mono ?_
        rw [show decide (S1.words 0 (n : Int) = S1.words 0 (n : Int)) = true from decide_eq_true rfl]
        rintro e w10 ⟨rfl, d, rfl⟩
        have fd := Fr.drewN (fun _ => False) w9 d
        have M10 := Mm.hid (M9.out.fr fd fun _ _ h => h)
        have Q10 := Mm.hid (Q9.out.fr fd fun _ _ h => h)
        have NM10 := Mm.hid (NM9.out.fr fd fun _ _ h => h)
        have NQ10 := Mm.hid (NQ9.out.fr fd fun _ _ h => h)
        have BF10 : Hid (Below w.heap.size w (w9.drewN d)) := ⟨BF9.out.os, BF9.out.tape, BF9.out.output, BF9.out.size, BF9.out.block⟩
        clear fd M9 Q9 NM9 NQ9 WW9 W89 BF9
        generalize w9.drewN d = wz at *
        go_wp2_with fail
        refine (bad_any w.heap.size g _ _ _ M10.out).mono ?_
        rw [B9.out]
        rintro e w11 ⟨rfl, rfl⟩
        go_wp2_with fail
        refine (rbad_any Q10.out rfl).mono ?_
        rintro e w11 ⟨rfl, rfl⟩
        go_wp2_with fail
        refine (bad_any w.heap.size g2 _ _ _ NM10.out).mono ?_
        rintro e w11 ⟨rfl, rfl⟩
        go_wp2_with fail
        refine (rbad_any NQ10.out rfl).mono ?_
        rintro e w11 ⟨rfl, rfl⟩
        go_wp2_with fail
        refine (len_any w.heap.size g _ _ n _ M10.out LWS.out).mono ?_
        rintro e w11 ⟨rfl, rfl⟩
        go_wp2
        go_ret
        exact ⟨by simp, BF10.out⟩
end Go.Proofs.Ytkbobgblohohcaa

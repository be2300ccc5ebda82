/- Walk: the law LockScript, where the script is at most 2^20 long. -/
import Derived.Test.YtkbobgblohohcaaScH
namespace Go.Proofs.Ytkbobgblohohcaa
open Go.RowKit Go.Mm Go.Cells
theorem next_ne {p n q : Nat} (hp : p < n) (hn : 2 ≤ n) (h : (q : Int) = ((p : Int) + 1) % (n : Int)) : q ≠ p := by
  rintro rfl
  rcases Nat.lt_or_ge (q + 1) n with h1 | h1
  · rw [Int.emod_eq_of_lt (by omega) (by omega)] at h; omega
  · have e : (q : Int) + 1 = (n : Int) := by omega
    rw [e, Int.emod_self] at h; omega
theorem LB.begin {w w1 w2 : World} {g n : Nat} (hn : n ≤ 65536) (h : w.heap.size ≤ g ∧ MemB w.heap.size (fun k => w.heap.size ≤ k ∧ k < w1.heap.size) w1 g (Cm.new n) ∧ Below w.heap.size w w1) (hw : w2 = w1.alloc (.cells #[.int .i64 (n : Int), .slice none 0 0, .slice none 0 0, .int .i64 0] 141)) : LB w.heap.size g w1.heap.size 0 w (fun _ => False) (Cm.new n) (Cm.new n) w2 := by
  subst hw
  obtain ⟨i1, i2, i3⟩ := h
  have hs := i3.size
  have B := (Below.refl w1.heap.size w1).alloc (Nat.le_refl _) (.cells #[.int .i64 (n : Int), .slice none 0 0, .slice none 0 0, .int .i64 0] 141)
  exact ⟨_, _, i2.below B, rnew hs hn, fun k h e => by omega, fun _ h => h.elim, i3.trans (B.mono hs)⟩
theorem LB.head {base g r lb : Nat} {w0 w : World} {G : Nat → Prop} {S S2 : Cm} (h : LB base g r lb w0 G S S2 w) {n : Nat} (hn : S2.ws.length = n) : w.cell? ⟨r, 0, none⟩ = some (.int .i64 (n : Int)) := by
  obtain ⟨_, _, _, h2, _⟩ := h.out
  obtain ⟨_, _, _, h1, _⟩ := h2.out
  rw [← hn]
  exact h1.cell 0
theorem ScS.begin {base g r n : Nat} {w0 w w' : World} {G : Nat → Prop} {a b : Int} {l0 l1 kb lL sb : Nat} {S : Cm} (h : LB base g r 0 w0 G S S w) (h0 : G l0) (h1 : G l1) (h2 : G kb) (b0 : Blk w l0 146 #[.pointer (some ⟨g, 0, none⟩), .int .i64 a, .int .i64 b]) (b1 : Blk w l1 146 #[.pointer (some ⟨g, 0, none⟩), .int .i64 a, .int .i64 b]) (b2 : Blk w kb 148 #[.pointer (some ⟨r, 0, none⟩), .int .i64 a, .int .i64 b])
    (hL : w.heap.size = lL) (hS : w.heap.size + 1 = sb) (hn : S.ws.length = n) (ht : S.tr.length ≤ 0) (hb : S.bad ≤ 0)
    (hw : w' = (w.alloc (.cells #[.pointer (some ⟨l0, 0, none⟩), .pointer (some ⟨l1, 0, none⟩)] 64)).alloc (.cells #[.pointer (some ⟨g, 0, none⟩), .slice (some ⟨lL, 0, none⟩) 2 2, .slice none 0 0, .pointer (some ⟨r, 0, none⟩), .pointer (some ⟨kb, 0, none⟩), .slice none 0 0] 87)) : ScS base g r w0 a b sb lL l0 l1 kb n 0 w' := by
  subst hL hS
  have k1 : ∀ k, k < w.heap.size → w'.heap[k]? = w.heap[k]? := fun k hk => by
    rw [hw]; exact (Below.heap_alloc _ _ k (by simp; omega)).trans (Below.heap_alloc w _ k hk)
  have gr := (h.grow (.cells #[.pointer (some ⟨l0, 0, none⟩), .pointer (some ⟨l1, 0, none⟩)] 64)).grow (.cells #[.pointer (some ⟨g, 0, none⟩), .slice (some ⟨w.heap.size, 0, none⟩) 2 2, .slice none 0 0, .pointer (some ⟨r, 0, none⟩), .pointer (some ⟨kb, 0, none⟩), .slice none 0 0] 87)
  rw [← hw] at gr
  have bS : Blk w' (w.heap.size + 1) 87 #[.pointer (some ⟨g, 0, none⟩), .slice (some ⟨w.heap.size, 0, none⟩) 2 2, .slice none 0 0, .pointer (some ⟨r, 0, none⟩), .pointer (some ⟨kb, 0, none⟩), .slice none 0 0] := by
    rw [hw]
    have := Blk.new (w.alloc (.cells #[.pointer (some ⟨l0, 0, none⟩), .pointer (some ⟨l1, 0, none⟩)] 64)) #[.pointer (some ⟨g, 0, none⟩), .slice (some ⟨w.heap.size, 0, none⟩) 2 2, .slice none 0 0, .pointer (some ⟨r, 0, none⟩), .pointer (some ⟨kb, 0, none⟩), .slice none 0 0] 87
    rwa [show (w.alloc (.cells #[.pointer (some ⟨l0, 0, none⟩), .pointer (some ⟨l1, 0, none⟩)] 64)).heap.size = w.heap.size + 1 from by simp] at this
  have bL : Blk w' w.heap.size 64 #[.pointer (some ⟨l0, 0, none⟩), .pointer (some ⟨l1, 0, none⟩)] := by
    rw [hw]
    exact (Blk.new w _ 64).keep (Below.heap_alloc _ _ _ (by simp))
  refine ⟨_, [], .slice none 0 0, .slice none 0 0, S, ⟨.inr (by simp), .inl (.inr rfl), .inl (.inl h0), .inl (.inl h1), .inl (.inl h2), (fun k e => by cases e), (fun k e => by cases e), bS, bL, b0.keep (k1 _ b0.lt), b1.keep (k1 _ b1.lt), b2.keep (k1 _ b2.lt), ⟨rfl, .inl ⟨rfl, rfl⟩⟩, ⟨rfl, .inl ⟨rfl, rfl⟩⟩, (fun i E h => by cases h), fun i j E E' _ h => by cases h⟩, gr, hn, ht, hb, Nat.le_refl _⟩
set_option maxRecDepth 100000 in
set_option maxHeartbeats 8000000 in
theorem law_lockscript (words next serving : Int) (A : Option Addr) (N c : Nat) (xs : List S4) (w : World) (_ : (Lit.int .i64 words).wf = true) (_ : (Lit.int .i64 next).wf = true) (_ : (Lit.int .i64 serving).wf = true) (h : Sl w 4 32 fS gS A N c xs) (hN : N ≤ 1048576) :
    Calls Try.prog 15 #[.int .i64 words, .int .i64 next, .int .i64 serving, .slice A N c] w fun e w' => e = .returned (.bool true) ∧ Below w.heap.size w w' := by
  have R := Mm.hid h.rd
  have LN := Mm.hid h.len
  have GD := Mm.hid h.good
  have hcap : N ≤ c := h.cap
  clear h
  go_enter Try.func15, Try.ntmps15
  go_wp2_with fail
  refine (pick17_any words 8 _ (by decide) (by decide)).mono ?_
  rintro e w0 ⟨q, hq, rfl, rfl, -⟩
  have hq1 : ((2 : Int) + (q : Int)) = ((2 + q : Nat) : Int) := by omega
  have HP := Mm.hid hq1
  clear hq1
  have hn1 : 2 ≤ 2 + q := by omega
  have hn2 : 2 + q ≤ 9 := by omega
  go_wp2_with fail
  rw [HP.out]
  generalize 2 + q = n at *
  clear HP hq
  refine (pick17_any next n _ (by omega) (by omega)).mono ?_
  rintro e w0 ⟨p1, hp1, rfl, rfl, -⟩
  go_wp2_with fail
  refine (pick17_any serving n _ (by omega) (by omega)).mono ?_
  rintro e w0 ⟨p2, hp2, rfl, rfl, -⟩
  go_upto_if 36 with (fail)
  go_cut [11] from 36 to 40 (fun t wc => ∃ j : Nat, t = .int .i64 (j : Int) ∧ j < n ∧ Hid (j ≠ p1) ∧ w = wc)
  case first =>
    by_cases he : p1 = p2
    · subst he
      have hb : ((p1 : Int) == (p1 : Int)) = true := by simp
      go_wp2_with fail
      refine (pick17_any ((p1 : Int) + 1) n _ (by omega) (by omega)).mono ?_
      rintro e w0 ⟨p3, hp3, rfl, rfl, HQ⟩
      have NE := Mm.hid (next_ne hp1 hn1 HQ.out)
      clear HQ
      go_wp2_with fail
      go_meet
      exact ⟨p3, rfl, hp3, NE, rfl⟩
    · have hb : ((p1 : Int) == (p2 : Int)) = false := beq_eq_false_iff_ne.2 (by omega)
      have NE : Hid (p2 ≠ p1) := fun e => he e.symm
      clear he
      go_wp2_with fail
      go_meet
      exact ⟨p2, rfl, hp2, NE, rfl⟩
  case rest =>
    obtain ⟨j, rfl, hj, NE, rfl⟩ := hcut
    clear hp2
    have LC : Hid (lockC n (p1 : Int) (j : Int) = 0) := lockC_ok (by omega) (fun e => NE.out (by omega))
    have LN0 : Hid ((Cm.new n).ws.length = n) := by show _ = _; simp [Cm.new]
    go_wp2_with fail
    refine (new_good n _ (by omega) (by omega)).mono ?_
    rintro e w1 ⟨g, rfl, N1⟩
    go_wp2_with fail
    refine (ref_mem n _ (by omega) (by omega)).mono ?_
    rintro e w2 ⟨rfl, hw2⟩
    have L2 := Mm.hid (LB.begin (by omega) N1.out hw2)
    clear hw2 N1
    generalize w1.heap.size = r at *
    obtain ⟨Fm, _, fm, _⟩ := L2.out.out
    have M2 := Mm.hid fm
    clear fm
    go_wp2_with fail
    refine (lock_any _ g n Fm (Cm.new n) (p1 : Int) (j : Int) _ M2.out LN0.out (by omega)).mono ?_
    rw [LC.out]
    rintro e w3 (⟨h0, _, _⟩ | ⟨_, rfl, hw3⟩)
    · exact absurd rfl h0
    have L3 : Hid (LB w.heap.size g r 0 w (fun k => False ∨ k = w2.heap.size) (Cm.new n) (Cm.new n) w3) := by show LB _ _ _ _ _ _ _ _ _; rw [hw3]; exact L2.out.grow _
    have K3 : Hid (Blk w3 w2.heap.size 146 #[.pointer (some ⟨g, 0, none⟩), .int .i64 (p1 : Int), .int .i64 (j : Int)]) := by show Blk _ _ _ _; rw [hw3]; exact Blk.new w2 _ 146
    clear hw3 L2 M2
    generalize w2.heap.size = l0 at *
    obtain ⟨Fm3, _, fm, _⟩ := L3.out.out
    have M3 := Mm.hid fm
    clear fm
    go_wp2_with fail
    refine (lock_any _ g n Fm3 (Cm.new n) (p1 : Int) (j : Int) _ M3.out LN0.out (by omega)).mono ?_
    rw [LC.out]
    rintro e w4 (⟨h0, _, _⟩ | ⟨_, rfl, hw4⟩)
    · exact absurd rfl h0
    have L4 : Hid (LB w.heap.size g r 0 w (fun k => (False ∨ k = l0) ∨ k = w3.heap.size) (Cm.new n) (Cm.new n) w4) := by show LB _ _ _ _ _ _ _ _ _; rw [hw4]; exact L3.out.grow _
    have K4 : Hid (Blk w4 w3.heap.size 146 #[.pointer (some ⟨g, 0, none⟩), .int .i64 (p1 : Int), .int .i64 (j : Int)]) := by show Blk _ _ _ _; rw [hw4]; exact Blk.new w3 _ 146
    have K3' : Hid (Blk w4 l0 146 #[.pointer (some ⟨g, 0, none⟩), .int .i64 (p1 : Int), .int .i64 (j : Int)]) := by show Blk _ _ _ _; rw [hw4]; exact K3.out.keep (Below.heap_alloc w3 _ _ K3.out.lt)
    clear hw4 L3 M3 K3
    generalize w3.heap.size = l1 at *
    go_wp2_with fail
    refine (ref_lock r n (p1 : Int) (j : Int) _ (L4.out.head LN0.out) (by omega)).mono ?_
    rw [LC.out]
    rintro e w5 (⟨h0, _, _⟩ | ⟨_, rfl, hw5⟩)
    · exact absurd rfl h0
    have L5 : Hid (LB w.heap.size g r 0 w (fun k => ((False ∨ k = l0) ∨ k = l1) ∨ k = w4.heap.size) (Cm.new n) (Cm.new n) w5) := by show LB _ _ _ _ _ _ _ _ _; rw [hw5]; exact L4.out.grow _
    have K5 : Hid (Blk w5 w4.heap.size 148 #[.pointer (some ⟨r, 0, none⟩), .int .i64 (p1 : Int), .int .i64 (j : Int)]) := by show Blk _ _ _ _; rw [hw5]; exact Blk.new w4 _ 148
    have K3 : Hid (Blk w5 l0 146 #[.pointer (some ⟨g, 0, none⟩), .int .i64 (p1 : Int), .int .i64 (j : Int)]) := by show Blk _ _ _ _; rw [hw5]; exact K3'.out.keep (Below.heap_alloc w4 _ _ K3'.out.lt)
    have K4' : Hid (Blk w5 l1 146 #[.pointer (some ⟨g, 0, none⟩), .int .i64 (p1 : Int), .int .i64 (j : Int)]) := by show Blk _ _ _ _; rw [hw5]; exact K4.out.keep (Below.heap_alloc w4 _ _ K4.out.lt)
    clear hw5 L4 K3' K4
    generalize w4.heap.size = kb at *
    have ST := Mm.hid (fun w' hw => ScS.begin (w' := w') L5.out (.inl (.inl (.inr rfl))) (.inl (.inr rfl)) (.inr rfl) K3.out K4'.out K5.out rfl rfl LN0.out (Nat.le_refl _) (Nat.le_refl _) hw)
    go_upto_region 16 with (fail)
    obtain ⟨w7, hw7⟩ : ∃ w7, (w5.alloc (.cells #[.pointer (some ⟨l0, 0, none⟩), .pointer (some ⟨l1, 0, none⟩)] 64)).alloc (.cells #[.pointer (some ⟨g, 0, none⟩), .slice (some ⟨w5.heap.size, 0, none⟩) 2 2, .slice none 0 0, .pointer (some ⟨r, 0, none⟩), .pointer (some ⟨kb, 0, none⟩), .slice none 0 0] 87) = w7 := ⟨_, rfl⟩
    have S7 := Mm.hid (ST.out w7 hw7.symm)
    rw [hw7]
    clear hw7 ST K3 K4' K5 L5 LC
    obtain ⟨sb, hsb⟩ : ∃ sb, w5.heap.size + 1 = sb := ⟨_, rfl⟩
    rw [hsb] at S7 ⊢
    clear hsb
    generalize w5.heap.size = lL at *
    go_wp2_with fail
    go_loopw [23, 24] (fun i _ wr => ∃ k : Nat, k ≤ N ∧ i = .int .i64 (k : Nat) ∧ Hid (ScS w.heap.size g r w (p1 : Int) (j : Int) sb lL l0 l1 kb n k wr)) (fun i _ _ => N - (intOf i).toNat)
    case atStart => exact ⟨0, Nat.zero_le _, rfl, S7.out⟩
    case round =>
      obtain ⟨k, hk, rfl, HK⟩ := hrel
      clear S7
      have BW : Hid (Below w.heap.size w wr) := by
        obtain ⟨_, _, _, _, _, _, l, _⟩ := HK.out
        exact l.to
      by_cases hlt : k < N
      · obtain ⟨z, hz⟩ : ∃ z, xs[k]? = some z := ⟨_, List.getElem?_eq_getElem (by rw [LN.out]; exact hlt)⟩
        obtain ⟨ad, rfl, _, f0, f1, f2, f3⟩ := rd_s4 (R.out.below BW.out) LN.out hz
        have GZ := Mm.hid (GD.out z (List.mem_of_getElem? hz))
        clear hz
        go_wp2_with fail
        refine (scene_any z GZ.out hj HK.out (by omega)).mono ?_
        rintro e w8 ⟨rfl, h8⟩
        have H8 := Mm.hid h8
        clear h8 f0 f1 f2 f3 HK
        go_wp2
        go_roundw
        case rel => exact ⟨k + 1, by omega, by go_num, H8.out⟩
        case measure => simp [intOf] <;> omega
      · obtain ⟨G, Es, vW, vQ, S, _, l, _, ht, _, _⟩ := HK.out
        obtain ⟨Fm8, Fq8, m8, r8, _, _, _⟩ := l.out
        obtain ⟨T, hT⟩ : ∃ T, S.tr.length = T := ⟨_, rfl⟩
        have TT := Mm.hid hT
        have hTk : T ≤ 1048576 := by omega
        have M8 := Mm.hid m8
        have R8 := Mm.hid r8
        have hle := l.le
        clear l m8 r8 ht hT HK
        go_wp2_with fail
        refine (trace_any w.heap.size g Fm8 S _ M8.out (by rw [TT.out]; omega)).mono ?_
        rintro e w9 ⟨A3, m3, k3, rfl, hk3, O3⟩
        obtain ⟨o1, o2, o3⟩ := O3.out
        rw [TT.out] at o1
        subst o1
        have K9 := Mm.hid (Rd.of_own o2)
        have R9 := Mm.hid (R8.out.below o3)
        have B9 := Mm.hid (BW.out.trans (o3.mono hle))
        clear o2 o3 O3
        go_wp2_with fail
        refine (rtrace_any R9.out TT.out).mono ?_
        rintro e w10 ⟨A4, k4, rfl, hk4, K10, rfl⟩
        go_wp2_with fail
        refine (entries17_any A3 A4 T k3 k4 S.tr _ K9.out K10.out TT.out (by omega)).mono ?_
        rintro e w11 ⟨rfl, h11⟩
        have B11 := Mm.hid (B9.out.trans (h11.mono B9.out.size))
        clear h11
        go_wp2
        go_ret
        exact ⟨rfl, B11.out⟩
end Go.Proofs.Ytkbobgblohohcaa

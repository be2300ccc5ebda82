/- Walk: the law AvcTrue. -/
import Derived.Test.YthojgfnaanckeaaTrueN
import Derived.Deep.RegionHeld3
import Derived.Deep.CutRange
namespace Go.Proofs.Ythojgfnaanckeaa
open Go.RowKit Go.Mm
theorem undrew {w w' : World} (h : Below w.drew.heap.size w.drew w') : Below w.heap.size w w' := ⟨h.os, h.tape, h.output, h.size, h.block⟩
theorem eq45' (p q : Ac) (r : Bool) (h : (p.do_ == q.do_ && (p.tag == q.tag && (p.s == q.s && (p.o == q.o && (p.a == q.a && p.al == q.al))))) = r) (W : World) :
    (Op.equalIn 10000 45 (.agg #[.int .i64 p.do_, .int .i64 p.tag, .int .i64 p.s, .int .i64 p.o, .int .i64 p.a, .bool p.al]) (.agg #[.int .i64 q.do_, .int .i64 q.tag, .int .i64 q.s, .int .i64 q.o, .int .i64 q.a, .bool q.al])).run Try.prog W = .ok r W := by
  rw [← h]; exact eq45 9998 p q W
def Which (m : Nat) (w : World) (e : Ending) (w' : World) : Prop := ∃ r : Nat, 1 ≤ r ∧ r ≤ m ∧ e = .returned (.int .i64 (r : Nat)) ∧ w = w'
theorem which_nat (x : Int) (m : Nat) (w : World) (hm : 1 ≤ m) (hm' : m ≤ 256) : Calls Try.prog 17 #[.int .i64 x, .int .i64 (m : Nat)] w (Which m w) := by
  refine (which_any x m w hm hm').mono ?_
  rintro e w' ⟨rfl, rfl⟩
  have q1 := Int.emod_nonneg x (show (m : Int) ≠ 0 by omega)
  have q2 := Int.emod_lt_of_pos x (show (0 : Int) < m by omega)
  exact ⟨_, by omega, by omega, rfl, rfl⟩
set_option maxRecDepth 100000 in
set_option maxHeartbeats 8000000 in
theorem law_true (s n : Int) (A : Option Addr) (N c : Nat) (xs : List Ac) (w : World) (_ : (Lit.int .i64 s).wf = true) (_ : (Lit.int .i64 n).wf = true) (h : Sl w 6 48 fA gA A N c xs) :
    Calls Try.prog 6 #[.int .i64 s, .int .i64 n, .slice A N c] w fun e w' => e = .returned (.bool true) ∧ Below w.heap.size w w' := by
  have hN : N ≤ 2932031007403 := by have := h.room; omega
  have hcap : N ≤ c := h.cap
  have R := Mm.hid (rdA_of h.len h.rd)
  clear h
  go_enter Try.func6, Try.ntmps6
  go_wp2_with fail
  refine (alive_true _).mono ?_
  rintro e w1 ⟨rfl, hb⟩
  have B1 := Mm.hid hb
  clear hb
  go_wp2_with fail
  refine (which_nat s 256 _ (by decide) (by decide)).mono ?_
  rintro e w2 ⟨len, z1, z2, rfl, rfl⟩
  go_wp2_with fail
  refine (which_nat n 8 _ (by decide) (by decide)).mono ?_
  rintro e w2 ⟨m, z3, z4, rfl, rfl⟩
  go_wp2_with fail
  refine (new_good len m _ z1 z2 z3 z4).mono ?_
  rintro e w2 ⟨rfl, hc, hb⟩
  have hle := B1.out.size
  have C2 := Mm.hid hc
  have B2 := Mm.hid (B1.out.trans (hb.mono hle))
  clear hc hb
  generalize w1.heap.size = b at *
  clear B1
  go_wp2_with fail
  go_loopw [10, 11, 12, 13, 14, 15] (fun i _ _ _ _ _ wr => ∃ (k : Nat) (S : St), k ≤ N ∧ i = .int .i64 (k : Nat) ∧ Hid (CacheB wr b m S ∧ S.ok m ∧ S.small k ∧ TI (xs.take k) S) ∧ Hid (Below w.heap.size w wr)) (fun i _ _ _ _ _ _ => N - (intOf i).toNat)
  case atStart => exact ⟨0, St.new len m, Nat.zero_le _, rfl, ⟨C2.out, new_ok z1 z2 z3 z4, new_small _ _, new_uniq _ _, fun _ _ _ _ _ hi => absurd hi new_in, fun y hy => by simp at hy⟩, B2⟩
  case round =>
    obtain ⟨k, S, hk, rfl, HC, HB⟩ := hrel
    clear C2 B2
    by_cases hlt : k < N
    · obtain ⟨ad, rfl, hl, hc⟩ := (R.out.below HB.out).2 (by omega)
      obtain ⟨x, hx⟩ : ∃ x, xs[k]? = some x := ⟨_, List.getElem?_eq_getElem (by have := R.out.1; omega)⟩
      have e := hc k x hx
      have TS := Mm.hid (take_snoc hx)
      obtain ⟨xd, xt, x1, x2, x3, xl⟩ := x
      obtain ⟨e0, e1, e2, e3, e4, e5⟩ := e
      simp only at e0 e1 e2 e3 e4 e5
      have hsz : w.heap.size ≤ wr.heap.size := HB.out.size
      have top := HC.out.1.top HC.out.2.1.1
      clear hc hx
      have BA := Mm.hid ((Below.refl wr.heap.size wr).alloc (Nat.le_refl _) (.cells #[.int .i64 xd, .int .i64 xt, .int .i64 x1, .int .i64 x2, .int .i64 x3, .bool xl] 45))
      have CA := Mm.hid (HC.out.1.below BA.out)
      have XA := Mm.hid (Blk.new wr #[.int .i64 xd, .int .i64 xt, .int .i64 x1, .int .i64 x2, .int .i64 x3, .bool xl] 45)
      by_cases hd2 : (xd == 2) = true
      · have hd1 : (xd == 1) = false := by simp at hd2 ⊢; omega
        have hd2' : Hid (xd = 2) := Mm.hid (by simpa using hd2)
        go_wp2_with fail
        refine (put_any b m S xt x1 x2 x3 xl k _ (by exact CA.out) HC.out.2.1 HC.out.2.2.1 (by omega)).mono ?_
        rintro e w5 ⟨rfl, hc, hf⟩
        have hXA : w5.heap[wr.heap.size]? = _ := hf.block wr.heap.size (by simp) (fun h => by have := h.2; omega)
        have X5 := Mm.hid (XA.out.keep hXA)
        have v0 : w5.cell? ⟨wr.heap.size, 0, none⟩ = some (.int .i64 xd) := X5.out.cell 0
        have C5 := Mm.hid hc
        have B5 := Mm.hid (HB.out.trans ((BA.out.mono hsz).trans (hf.below (B := w.heap.size) (fun g hg => Nat.le_trans hle hg.1) (by simp; omega))))
        have T5 : Hid (TI (xs.take (k + 1)) (putS m S xt x1 x2 x3 xl)) := by unfold Hid; rw [TS.out]; exact HC.out.2.2.2.put (x := ⟨xd, xt, x1, x2, x3, xl⟩) HC.out.2.1 hd2'.out
        have N5 : Hid ((putS m S xt x1 x2 x3 xl).ok m ∧ (putS m S xt x1 x2 x3 xl).small (k + 1)) := ⟨putS_ok _ _ _ _ _ HC.out.2.1, putS_small _ _ _ _ _ HC.out.2.2.1⟩
        clear hc hf hXA
        go_wp2
        go_roundw
        case rel => exact ⟨k + 1, _, by omega, by go_num, ⟨C5.out, N5.out.1, N5.out.2, T5.out⟩, B5⟩
        case measure => simp [intOf] <;> omega
      · have hd2' : (xd == 2) = false := by simpa using hd2
        have hd2'' : Hid (xd ≠ 2) := Mm.hid (by simpa using hd2)
        clear hd2
        by_cases hd1 : (xd == 1) = true
        · have T5 : Hid (TI (xs.take (k + 1)) (getS S xt x1 x2 x3).2) := by unfold Hid; rw [TS.out]; exact HC.out.2.2.2.get (x := ⟨xd, xt, x1, x2, x3, xl⟩) hd2''.out
          have N5 : Hid ((getS S xt x1 x2 x3).2.ok m ∧ (getS S xt x1 x2 x3).2.small (k + 1)) := ⟨getS_ok _ _ _ _ HC.out.2.1, getS_small _ _ _ _ HC.out.2.2.1⟩
          have hit := Mm.hid (fun hi => HC.out.2.2.2.hit (tag := xt) (s := x1) (o := x2) (a := x3) hi)
          have mis := Mm.hid (fun (y : Ac) (hy : (xs.take k).getLast? = some y) (hd : y.do_ = 2) (q : Ac) (hq : lastPut (xs.take k) x1 x2 x3 = some q) hh ht => HC.out.2.2.2.miss (tag := xt) hy hd hq hh ht)
          have mf := Mm.hid (fun hi => getS_miss (S := S) (tag := xt) (s := x1) (o := x2) (a := x3) hi)
          go_wp2_with fail
          refine (get_any b m S xt x1 x2 x3 k _ (by exact CA.out) HC.out.2.1 HC.out.2.2.1 (by omega)).mono ?_
          rintro e w5 ⟨rfl, hc, hf⟩
          have hXA : w5.heap[wr.heap.size]? = _ := hf.block wr.heap.size (by simp) (fun h => by have := h.2; omega)
          have X5 := Mm.hid (XA.out.keep hXA)
          have C5 := Mm.hid hc
          have B5 := Mm.hid (HB.out.trans ((BA.out.mono hsz).trans (hf.below (B := w.heap.size) (fun g hg => Nat.le_trans hle hg.1) (by simp; omega))))
          have v0 : w5.cell? ⟨wr.heap.size, 0, none⟩ = some (.int .i64 xd) := X5.out.cell 0
          have v1 : w5.cell? ⟨wr.heap.size, 1, none⟩ = some (.int .i64 xt) := X5.out.cell 1
          have v2 : w5.cell? ⟨wr.heap.size, 2, none⟩ = some (.int .i64 x1) := X5.out.cell 2
          have v3 : w5.cell? ⟨wr.heap.size, 3, none⟩ = some (.int .i64 x2) := X5.out.cell 3
          have v4 : w5.cell? ⟨wr.heap.size, 4, none⟩ = some (.int .i64 x3) := X5.out.cell 4
          have v5 : w5.cell? ⟨wr.heap.size, 5, none⟩ = some (.bool xl) := X5.out.cell 5
          have hs5 : wr.heap.size < w5.heap.size := by have := hf.size; simp at this; omega
          clear hc hf hXA e0 e1 e2 e3 e4 e5
          have kI : (0 : Int) ≤ (k : Int) := by omega
          have kC : (k : Int) ≤ (c : Int) := by omega
          have kN : (k : Int) ≤ (N : Int) := by omega
          generalize (getS S xt x1 x2 x3).1.1 = gx at *
          generalize (getS S xt x1 x2 x3).1.2 = gy at *
          obtain ⟨⟨qd, qt, q1, q2, q3, ql⟩, hq⟩ : ∃ q, (lastPut (xs.take k) x1 x2 x3).getD Ac.zero = q := ⟨_, rfl⟩
          obtain ⟨th, hth⟩ : ∃ t, (lastPut (xs.take k) x1 x2 x3).isSome = t := ⟨_, rfl⟩
          have Q := Mm.hid hq
          have TH := Mm.hid hth
          have hlast : th = true → lastPut (xs.take k) x1 x2 x3 = some ⟨qd, qt, q1, q2, q3, ql⟩ := by
            intro ht
            rw [ht] at hth
            obtain ⟨z, hz⟩ := Option.isSome_iff_exists.1 hth
            rw [hz] at hq ⊢
            rw [← hq]; rfl
          have ht1 : gy = true → th = true ∧ qt = xt ∧ ql = gx := by
            intro hg
            obtain ⟨z, hz, h1, h2⟩ := hit.out hg
            rw [hz] at hth hq
            rw [Option.getD_some] at hq
            exact ⟨by rw [← hth]; rfl, by rw [← h1, hq], by rw [← h2, hq]⟩
          have LP := Mm.hid hlast
          have H1 := Mm.hid ht1
          clear hq hth hlast ht1
          have RT := Mm.hid ((R.out.take (by omega : k ≤ N)))
          go_wp2_with fail
          go_cut [14, 15] from 35 to 142 (fun s14 s15 wc => ∃ g : Nat, s14 = .pointer (some ⟨g, 0, none⟩) ∧ s15 = .bool th ∧ wr.heap.size < g ∧ Hid (Blk wc g 45 #[.int .i64 qd, .int .i64 qt, .int .i64 q1, .int .i64 q2, .int .i64 q3, .bool ql]) ∧ Hid (Blk wc wr.heap.size 45 #[.int .i64 xd, .int .i64 xt, .int .i64 x1, .int .i64 x2, .int .i64 x3, .bool xl]) ∧ Hid (Below w5.heap.size w5 wc))
          case first =>
            have BZ := Mm.hid ((Below.refl w5.heap.size w5).alloc (Nat.le_refl _) (.cells #[.int .i64 0, .int .i64 0, .int .i64 0, .int .i64 0, .int .i64 0, .bool false] 45))
            have XZ := Mm.hid (X5.out.keep (BZ.out.block _ hs5))
            have hne : ¬ w5.heap.size = wr.heap.size := by omega
            have hne' : ¬ wr.heap.size = w5.heap.size := by omega
            have ZB := Mm.hid (Blk.new w5 #[.int .i64 0, .int .i64 0, .int .i64 0, .int .i64 0, .int .i64 0, .bool false] 45)
            go_region_held3 (fun w' => w'.cell? ⟨wr.heap.size, 0, none⟩ = some (.int .i64 xd) ∧ w'.cell? ⟨wr.heap.size, 1, none⟩ = some (.int .i64 xt) ∧ w'.cell? ⟨wr.heap.size, 2, none⟩ = some (.int .i64 x1) ∧ w'.cell? ⟨wr.heap.size, 3, none⟩ = some (.int .i64 x2) ∧ w'.cell? ⟨wr.heap.size, 4, none⟩ = some (.int .i64 x3) ∧ w'.cell? ⟨wr.heap.size, 5, none⟩ = some (.bool xl)) (go_keep)
              (first | (go_at_call 20; refine (last_any (some ad) k c (xs.take k) ⟨xd, xt, x1, x2, x3, xl⟩ _ (RT.out.below B5.out.drew) (by omega)).mono ?_; rintro e w6 ⟨he, hb6⟩; simp only at he; rw [Q.out, TH.out] at he; simp only [aV] at he; subst he; have X6 := Mm.hid (X5.out.keep (hb6.block _ hs5)); have B6 := Mm.hid (hb6); have hs6 : wr.heap.size < w6.heap.size := Nat.lt_of_lt_of_le hs5 (Nat.le_trans (by simp) hb6.size); have y0 : w6.cell? ⟨wr.heap.size, 0, none⟩ = some (.int .i64 xd) := X6.out.cell 0; have y1 : w6.cell? ⟨wr.heap.size, 1, none⟩ = some (.int .i64 xt) := X6.out.cell 1; have y2 : w6.cell? ⟨wr.heap.size, 2, none⟩ = some (.int .i64 x1) := X6.out.cell 2; have y3 : w6.cell? ⟨wr.heap.size, 3, none⟩ = some (.int .i64 x2) := X6.out.cell 3; have y4 : w6.cell? ⟨wr.heap.size, 4, none⟩ = some (.int .i64 x3) := X6.out.cell 4; have y5 : w6.cell? ⟨wr.heap.size, 5, none⟩ = some (.bool xl) := X6.out.cell 5;  clear hb6) | (go_at_call 20; refine (last_any (some ad) k c (xs.take k) ⟨xd, xt, x1, x2, x3, xl⟩ _ (RT.out.below (B5.out.trans (BZ.out.mono B5.out.size)).drew) (by omega)).mono ?_; rintro e w6 ⟨he, hb6⟩; simp only at he; rw [Q.out, TH.out] at he; simp only [aV] at he; subst he; have X6 := Mm.hid (XZ.out.keep (hb6.block _ (by simp; omega))); have B6 := Mm.hid (hb6); have hs6 : wr.heap.size < w6.heap.size := Nat.lt_of_lt_of_le hs5 (Nat.le_trans (by simp) hb6.size); have y0 : w6.cell? ⟨wr.heap.size, 0, none⟩ = some (.int .i64 xd) := X6.out.cell 0; have y1 : w6.cell? ⟨wr.heap.size, 1, none⟩ = some (.int .i64 xt) := X6.out.cell 1; have y2 : w6.cell? ⟨wr.heap.size, 2, none⟩ = some (.int .i64 x1) := X6.out.cell 2; have y3 : w6.cell? ⟨wr.heap.size, 3, none⟩ = some (.int .i64 x2) := X6.out.cell 3; have y4 : w6.cell? ⟨wr.heap.size, 4, none⟩ = some (.int .i64 x3) := X6.out.cell 4; have y5 : w6.cell? ⟨wr.heap.size, 5, none⟩ = some (.bool xl) := X6.out.cell 5; have Z6 := Mm.hid (ZB.out.keep (hb6.block _ (by simp))); have g0 : w6.cell? ⟨w5.heap.size, 0, none⟩ = some (.int .i64 0) := Z6.out.cell 0; have h0 : w6.frozen? ⟨w5.heap.size, 0, none⟩ = false := Z6.out.free 0; have g1 : w6.cell? ⟨w5.heap.size, 1, none⟩ = some (.int .i64 0) := Z6.out.cell 1; have h1 : w6.frozen? ⟨w5.heap.size, 1, none⟩ = false := Z6.out.free 1; have g2 : w6.cell? ⟨w5.heap.size, 2, none⟩ = some (.int .i64 0) := Z6.out.cell 2; have h2 : w6.frozen? ⟨w5.heap.size, 2, none⟩ = false := Z6.out.free 2; have g3 : w6.cell? ⟨w5.heap.size, 3, none⟩ = some (.int .i64 0) := Z6.out.cell 3; have h3 : w6.frozen? ⟨w5.heap.size, 3, none⟩ = false := Z6.out.free 3; have g4 : w6.cell? ⟨w5.heap.size, 4, none⟩ = some (.int .i64 0) := Z6.out.cell 4; have h4 : w6.frozen? ⟨w5.heap.size, 4, none⟩ = false := Z6.out.free 4; have g5 : w6.cell? ⟨w5.heap.size, 5, none⟩ = some (.bool false) := Z6.out.cell 5; have h5 : w6.frozen? ⟨w5.heap.size, 5, none⟩ = false := Z6.out.free 5; clear hb6))
            all_goals go_wp2_with fail
            all_goals go_meet
            · exact ⟨_, rfl, rfl, hs6, Blk.new w6 _ 45, X6.out.keep (Below.heap_alloc w6 _ _ hs6), Below.alloc (undrew B6.out) (Below.size (undrew B6.out)) _⟩
            · refine ⟨_, rfl, rfl, hs5, six Z6.out ⟨qd, qt, q1, q2, q3, ql⟩, ?_, ?_⟩
              · refine Fr.blk (S := fun k => k = w5.heap.size) ?_ X6.out hne'
                iterate 6 refine Fr.set ?_ _ rfl
                exact Fr.refl _ _
              · refine (BZ.out.trans ((undrew B6.out).mono (by simp))).trans (Fr.below (S := fun k => k = w5.heap.size) ?_ (fun g hg => Nat.le_of_eq hg.symm) (Nat.le_trans (by simp) B6.out.size))
                iterate 6 refine Fr.set ?_ _ rfl
                exact Fr.refl _ _
          case rest =>
            obtain ⟨g, rfl, rfl, hg, GB, XB, BC⟩ := hcut
            have CC := Mm.hid (C5.out.below BC.out)
            have BW := Mm.hid (B5.out.trans (BC.out.mono B5.out.size))
            have g0 : wc.cell? ⟨g, 0, none⟩ = some (.int .i64 qd) := GB.out.cell 0
            have g1 : wc.cell? ⟨g, 1, none⟩ = some (.int .i64 qt) := GB.out.cell 1
            have g2 : wc.cell? ⟨g, 2, none⟩ = some (.int .i64 q1) := GB.out.cell 2
            have g3 : wc.cell? ⟨g, 3, none⟩ = some (.int .i64 q2) := GB.out.cell 3
            have g4 : wc.cell? ⟨g, 4, none⟩ = some (.int .i64 q3) := GB.out.cell 4
            have g5 : wc.cell? ⟨g, 5, none⟩ = some (.bool ql) := GB.out.cell 5
            have xx1 : wc.cell? ⟨wr.heap.size, 1, none⟩ = some (.int .i64 xt) := XB.out.cell 1
            have fin : Hid (∀ nq : Nat, Below w.heap.size w (wc.drewN nq)) := fun nq => ⟨BW.out.os, BW.out.tape, BW.out.output, BW.out.size, BW.out.block⟩
            clear v0 v1 v2 v3 v4 v5
            cases gy
            · have hgx := mf.out rfl
              subst hgx
              rcases Nat.eq_zero_or_pos k with hk0 | hk0
              · subst hk0
                go_wp2_with fail
                go_quiet (fail)
                go_wp2
                go_roundw
                case rel => exact ⟨0 + 1, _, by omega, by go_num, ⟨CC.out.drewN, N5.out.1, N5.out.2, T5.out⟩, fin.out _⟩
                case measure => simp [intOf] <;> omega
              · have mis' := mis.out
                obtain ⟨j, rfl⟩ : ∃ j, k = j + 1 := ⟨k - 1, by omega⟩
                obtain ⟨y, hy⟩ : ∃ y, xs[j]? = some y := ⟨_, List.getElem?_eq_getElem (by have := R.out.1; omega)⟩
                have hlast : Hid ((xs.take (j + 1)).getLast? = some y) := by unfold Hid; rw [take_snoc hy, List.getLast?_concat]
                obtain ⟨ad', had, hl', hc'⟩ := (R.out.below BW.out).2 (by omega)
                cases had
                have e := hc' j y hy
                obtain ⟨pd, pt, p1, p2, p3, pl⟩ := y
                obtain ⟨e0, e1, e2, e3, e4, e5⟩ := e
                simp only at e0 e1 e2 e3 e4 e5
                have ej : ((j + 1 : Nat) : Int) - 1 = (j : Int) := by omega
                clear hc' hl' hy
                cases hpd : (pd == 2)
                · go_wp2_with fail
                  go_quiet (fail)
                  go_wp2
                  go_roundw
                  case rel => exact ⟨(j + 1) + 1, _, by omega, by go_num, ⟨CC.out.drewN, N5.out.1, N5.out.2, T5.out⟩, fin.out _⟩
                  case measure => simp [intOf] <;> omega
                · cases th
                  · go_wp2_with fail
                    go_quiet (fail)
                    go_wp2
                    go_roundw
                    case rel => exact ⟨(j + 1) + 1, _, by omega, by go_num, ⟨CC.out.drewN, N5.out.1, N5.out.2, T5.out⟩, fin.out _⟩
                    case measure => simp [intOf] <;> omega
                  · cases hr : (qd == pd && (qt == pt && (q1 == p1 && (q2 == p2 && (q3 == p3 && ql == pl)))))
                    · have q45 := eq45' ⟨qd, qt, q1, q2, q3, ql⟩ ⟨pd, pt, p1, p2, p3, pl⟩ false hr
                      simp only at q45
                      clear hr mis'
                      go_wp2_with fail
                      go_quiet (fail)
                      go_wp2
                      go_roundw
                      case rel => exact ⟨(j + 1) + 1, _, by omega, by go_num, ⟨CC.out.drewN, N5.out.1, N5.out.2, T5.out⟩, fin.out _⟩
                      case measure => simp [intOf] <;> omega
                    · have q45 := eq45' ⟨qd, qt, q1, q2, q3, ql⟩ ⟨pd, pt, p1, p2, p3, pl⟩ true hr
                      simp only at q45
                      cases htt : (qt == xt)
                      · clear hr mis'
                        go_wp2_with fail
                        go_quiet (fail)
                        go_wp2
                        go_roundw
                        case rel => exact ⟨(j + 1) + 1, _, by omega, by go_num, ⟨CC.out.drewN, N5.out.1, N5.out.2, T5.out⟩, fin.out _⟩
                        case measure => simp [intOf] <;> omega
                      · exact absurd (mis' _ hlast.out (by simpa using hpd) _ (LP.out rfl) hr (by simpa using htt)) (by decide)
            · obtain ⟨rfl, rfl, rfl⟩ := H1.out rfl
              rcases Nat.eq_zero_or_pos k with hk0 | hk0
              · subst hk0
                go_wp2_with fail
                go_quiet (fail)
                go_wp2
                go_roundw
                case rel => exact ⟨0 + 1, _, by omega, by go_num, ⟨CC.out.drewN, N5.out.1, N5.out.2, T5.out⟩, fin.out _⟩
                case measure => simp [intOf] <;> omega
              · obtain ⟨j, rfl⟩ : ∃ j, k = j + 1 := ⟨k - 1, by omega⟩
                obtain ⟨y, hy⟩ : ∃ y, xs[j]? = some y := ⟨_, List.getElem?_eq_getElem (by have := R.out.1; omega)⟩
                have hlast : Hid ((xs.take (j + 1)).getLast? = some y) := by unfold Hid; rw [take_snoc hy, List.getLast?_concat]
                obtain ⟨ad', had, hl', hc'⟩ := (R.out.below BW.out).2 (by omega)
                cases had
                have e := hc' j y hy
                obtain ⟨pd, pt, p1, p2, p3, pl⟩ := y
                obtain ⟨e0, e1, e2, e3, e4, e5⟩ := e
                simp only at e0 e1 e2 e3 e4 e5
                have ej : ((j + 1 : Nat) : Int) - 1 = (j : Int) := by omega
                clear hc' hl' hy
                cases hpd : (pd == 2)
                · go_wp2_with fail
                  go_quiet (fail)
                  go_wp2
                  go_roundw
                  case rel => exact ⟨(j + 1) + 1, _, by omega, by go_num, ⟨CC.out.drewN, N5.out.1, N5.out.2, T5.out⟩, fin.out _⟩
                  case measure => simp [intOf] <;> omega
                · cases hr : (qd == pd && (qt == pt && (q1 == p1 && (q2 == p2 && (q3 == p3 && ql == pl)))))
                  · have q45 := eq45' ⟨qd, qt, q1, q2, q3, ql⟩ ⟨pd, pt, p1, p2, p3, pl⟩ false hr
                    simp only at q45
                    clear hr
                    go_wp2_with fail
                    go_quiet (fail)
                    go_wp2
                    go_roundw
                    case rel => exact ⟨(j + 1) + 1, _, by omega, by go_num, ⟨CC.out.drewN, N5.out.1, N5.out.2, T5.out⟩, fin.out _⟩
                    case measure => simp [intOf] <;> omega
                  · have q45 := eq45' ⟨qd, qt, q1, q2, q3, ql⟩ ⟨pd, pt, p1, p2, p3, pl⟩ true hr
                    simp only at q45
                    clear hr
                    go_wp2_with fail
                    go_quiet (fail)
                    go_wp2
                    go_roundw
                    case rel => exact ⟨(j + 1) + 1, _, by omega, by go_num, ⟨CC.out.drewN, N5.out.1, N5.out.2, T5.out⟩, fin.out _⟩
                    case measure => simp [intOf] <;> omega
        · have hd1' : (xd == 1) = false := by simpa using hd1
          clear hd1
          have T5 : Hid (TI (xs.take (k + 1)) S) := by unfold Hid; rw [TS.out]; exact HC.out.2.2.2.none (x := ⟨xd, xt, x1, x2, x3, xl⟩) hd2''.out
          have B5 := Mm.hid (HB.out.trans (BA.out.mono hsz))
          go_wp2
          go_roundw
          case rel => exact ⟨k + 1, S, by omega, by go_num, ⟨CA.out, HC.out.2.1, HC.out.2.2.1.more (Nat.le_succ _), T5.out⟩, B5⟩
          case measure => simp [intOf] <;> omega
    · go_wp2
      go_ret
      exact ⟨rfl, HB.out⟩
end Go.Proofs.Ythojgfnaanckeaa

/- Walk: the law AvcActs. -/
import Derived.Test.YthojgfnaanckeaaActsA
import Derived.WideShapes
namespace Go.Proofs.Ythojgfnaanckeaa
open Go.RowKit Go.Mm Go.WideShapes
section
variable {H : Type} {enc : TypeId × Value → H} {w : World} {b0 : Nat} {spare : Nat → Bool} {held : Bool} {v : Value} {d : DataW H} {ps : List MemPlace}
theorem open_shape (hval : Value.okWide Try.prog w .any b0 37 v) (hd : DataW.Trod enc Try.prog w 0 spare held 37 v d ps) : ∃ s : Int × Int, v = .agg #[.int .i64 s.1, .int .i64 s.2] ∧ g64 s.1 ∧ g64 s.2 := by
  obtain ⟨cs, rfl, _⟩ := okWide_struct Try.underlying37 hval
  obtain ⟨n, hn⟩ := hd
  obtain ⟨xs, k, _, _, hl, hlen, hf⟩ := DataW.trod_struct Try.underlying37 hn
  have hc : Try.prog.cellsOf 37 = 2 := by kernel_rfl
  have hc3 : Try.prog.cellsOf 3 = 1 := by kernel_rfl
  rw [hc] at hl
  obtain ⟨cs⟩ := cs
  simp only [Value.cells] at hl hf
  match cs, hl, xs, hlen, hf with
  | [c0, c1], _, [x0, x1], _, hf =>
    have e0 := hf 0 _ rfl
    have e1 := hf 1 _ rfl
    obtain ⟨a, r0, _, w0⟩ := DataW.trod_int Try.underlying3 (show DataW.trod enc Try.prog w 0 spare held k 3 [c0] = some x0 from e0)
    obtain ⟨b, r1, _, w1⟩ := DataW.trod_int Try.underlying3 (show DataW.trod enc Try.prog w 0 spare held k 3 [c1] = some x1 from e1)
    simp only [List.cons.injEq, and_true] at r0 r1
    subst r0; subst r1
    exact ⟨(a, b), rfl, w0, w1⟩
end
/-- a cache and the document's, or none of both -/
def XS (w : World) (B K : Nat) (P Q : Option Addr) (X : Nat → Prop) : Prop :=
  (P = none ∧ Q = none ∧ ∀ k, ¬ X k) ∨ ∃ b r n S R v, P = some ⟨b + 1, 0, none⟩ ∧ Q = some ⟨r + 1, 0, none⟩ ∧ Duo w B b r n S R v K ∧ X = DX b r S.rows.length v
theorem XS.more {w : World} {B K : Nat} {P Q : Option Addr} {X : Nat → Prop} (h : XS w B K P Q X) {J : Nat} (hJ : K ≤ J) : XS w B J P Q X := by
  rcases h with h | ⟨b, r, n, S, R, v, h1, h2, h, h4⟩
  · exact .inl h
  · exact .inr ⟨b, r, n, S, R, v, h1, h2, ⟨h.c, h.rb, h.ok, h.small.more hJ, h.uniq, h.ci, h.sim, h.low⟩, h4⟩
theorem XS.keep {w w' : World} {B K : Nat} {P Q : Option Addr} {X : Nat → Prop} (h : XS w B K P Q X) {Y : Nat → Prop} (hf : Fr Y w w') (hX : ∀ k, X k → ¬ Y k) : XS w' B K P Q X := by
  rcases h with h | ⟨b, r, n, S, R, v, h1, h2, h, h4⟩
  · exact .inl h
  · exact .inr ⟨b, r, n, S, R, v, h1, h2, h.keep hf (fun k hk => hX k (by rw [h4]; exact hk)), h4⟩
theorem XS.lt {w : World} {B K : Nat} {P Q : Option Addr} {X : Nat → Prop} (h : XS w B K P Q X) {k : Nat} (hk : X k) : k < w.heap.size := by
  rcases h with h | ⟨b, r, n, S, R, v, h1, h2, h, h4⟩
  · exact absurd hk (h.2.2 k)
  · rw [h4] at hk; exact dx_lt h hk
def MadeX (w : World) (e : Ending) (w' : World) : Prop :=
  ∃ P Q X, e = .returned (.tuple #[.agg #[.pointer P, .pointer Q], .bool true]) ∧ Hid (Below w.heap.size w w') ∧ Hid (∀ k, X k → w.heap.size ≤ k ∧ k < w'.heap.size) ∧ Hid (∀ B, w'.heap.size ≤ B → XS w' B 0 P Q X)
theorem made_x (s n : Int) (w : World) : Calls Try.prog 15 #[.int .i64 s, .int .i64 n] w (MadeX w) := by
  refine (made_any s n w).mono ?_
  rintro e w' (⟨_, rfl, hb⟩ | ⟨s', n', b, r, rfl, rfl, rfl, hb, hle, hlt, hd⟩)
  · exact ⟨none, none, fun _ => False, rfl, hb, (fun _ h => h.elim), fun _ _ => .inl ⟨rfl, rfl, fun _ h => h⟩⟩
  · refine ⟨_, _, DX b r s' (.slice none 0 0), rfl, hb, fun k hk => ?_, fun B hB => .inr ⟨b, r, n', _, _, _, rfl, rfl, hd.out B hB, by simp [St.new]⟩⟩
    have hlow : b + 2 + s' ≤ r := by have := (hd.out _ (Nat.le_refl _)).low; simpa [St.new] using this
    rcases hk with ⟨h1, h2⟩ | h | h | h
    · omega
    · omega
    · omega
    · cases h
/-- one act -/
def OneEnds (B K : Nat) (P Q : Option Addr) (X : Nat → Prop) (w : World) (e : Ending) (w' : World) : Prop :=
  e = .returned (.bool true) ∧ ∃ X', Hid (XS w' B (K + 1) P Q X') ∧ Hid (Fr X w w') ∧ Hid (∀ k, X' k → X k ∨ w.heap.size ≤ k)
theorem one_act (B b r n : Nat) (S : St) (R : RS) (v : Value) (K : Nat) (x : Ac) (w : World) (h : Duo w B b r n S R v K) (hK : K ≤ 8796093022208) (hB : B ≤ w.heap.size) :
    Calls Try.prog 16 #[.agg #[.pointer (some ⟨b + 1, 0, none⟩), .pointer (some ⟨r + 1, 0, none⟩)], .agg #[.int .i64 x.do_, .int .i64 x.tag, .int .i64 x.s, .int .i64 x.o, .int .i64 x.a, .bool x.al]] w (OneEnds B K (some ⟨b + 1, 0, none⟩) (some ⟨r + 1, 0, none⟩) (DX b r S.rows.length v) w) := by
  refine (act_any B b r n S R v K x w h hK hB).mono ?_
  rintro e w' ⟨rfl, S', R', v', hd, hf, hl, ho⟩
  refine ⟨rfl, DX b r S'.rows.length v', .inr ⟨b, r, n, S', R', v', rfl, rfl, hd.out, rfl⟩, hf, fun k hk => ?_⟩
  rw [hl.out] at hk
  rcases hk with hk | hk | hk | hk
  · exact .inl (.inl hk)
  · exact .inl (.inr (.inl hk))
  · exact .inl (.inr (.inr (.inl hk)))
  · rcases ho.out k hk with h | h
    · exact .inl (.inr (.inr (.inr h)))
    · exact .inr h
/-- all that is held in the loop -/
structure LM (w wr : World) (B K g9 g11 : Nat) (P1 Q1 P2 Q2 : Option Addr) (X Y : Nat → Prop) : Prop where
  x : XS wr B K P1 Q1 X
  y : XS wr B K P2 Q2 Y
  ap : ∀ k, X k → ¬ Y k
  xl : ∀ k, X k → w.heap.size ≤ k ∧ k ≠ g9 ∧ k ≠ g11
  yl : ∀ k, Y k → w.heap.size ≤ k ∧ k ≠ g9 ∧ k ≠ g11
  b9 : Blk wr g9 40 #[.pointer P1, .pointer Q1]
  b11 : Blk wr g11 40 #[.pointer P2, .pointer Q2]
  low : Below w.heap.size w wr
  big : B ≤ wr.heap.size
theorem LM.stepX {w wr w' : World} {B K g9 g11 : Nat} {P1 Q1 P2 Q2 : Option Addr} {X Y X' : Nat → Prop} {J : Nat} (h : LM w wr B K g9 g11 P1 Q1 P2 Q2 X Y) (hx : XS w' B J P1 Q1 X') (hf : Fr X wr w') (hX : ∀ k, X' k → X k ∨ wr.heap.size ≤ k) (hJ : K ≤ J) : LM w w' B J g9 g11 P1 Q1 P2 Q2 X' Y := by
  have l9 := h.b9.lt
  have l11 := h.b11.lt
  have lw := h.low.size
  refine ⟨hx, (h.y.keep hf fun k hk e => h.ap k e hk).more hJ, fun k hk hy => ?_, fun k hk => ?_, h.yl, hf.blk h.b9 (fun e => (h.xl _ e).2.1 rfl), hf.blk h.b11 (fun e => (h.xl _ e).2.2 rfl), h.low.trans (hf.below (fun k e => (h.xl k e).1) lw), Nat.le_trans h.big hf.size⟩
  · rcases hX k hk with e | e
    · exact h.ap k e hy
    · have := h.y.lt hy; omega
  · rcases hX k hk with e | e
    · exact h.xl k e
    · omega
theorem LM.stepY {w wr w' : World} {B K g9 g11 : Nat} {P1 Q1 P2 Q2 : Option Addr} {X Y Y' : Nat → Prop} {J : Nat} (h : LM w wr B K g9 g11 P1 Q1 P2 Q2 X Y) (hy : XS w' B J P2 Q2 Y') (hf : Fr Y wr w') (hY : ∀ k, Y' k → Y k ∨ wr.heap.size ≤ k) (hJ : K ≤ J) : LM w w' B J g9 g11 P1 Q1 P2 Q2 X Y' := by
  have l9 := h.b9.lt
  have l11 := h.b11.lt
  have lw := h.low.size
  refine ⟨(h.x.keep hf fun k hk e => h.ap k hk e).more hJ, hy, fun k hk hy' => ?_, h.xl, fun k hk => ?_, hf.blk h.b9 (fun e => (h.yl _ e).2.1 rfl), hf.blk h.b11 (fun e => (h.yl _ e).2.2 rfl), h.low.trans (hf.below (fun k e => (h.yl k e).1) lw), Nat.le_trans h.big hf.size⟩
  · rcases hY k hy' with e | e
    · exact h.ap k hk e
    · have := h.x.lt hk; omega
  · rcases hY k hk with e | e
    · exact h.yl k e
    · omega
theorem LM.more {w wr : World} {B K g9 g11 : Nat} {P1 Q1 P2 Q2 : Option Addr} {X Y : Nat → Prop} {J : Nat} (h : LM w wr B K g9 g11 P1 Q1 P2 Q2 X Y) (hJ : K ≤ J) : LM w wr B J g9 g11 P1 Q1 P2 Q2 X Y :=
  ⟨h.x.more hJ, h.y.more hJ, h.ap, h.xl, h.yl, h.b9, h.b11, h.low, h.big⟩
theorem LM.drew {w wr : World} {B K g9 g11 : Nat} {P1 Q1 P2 Q2 : Option Addr} {X Y : Nat → Prop} (h : LM w wr B K g9 g11 P1 Q1 P2 Q2 X Y) : LM w wr.drew B K g9 g11 P1 Q1 P2 Q2 X Y :=
  ⟨h.x.keep (Fr.drew (fun _ => False) _) (fun _ _ e => e), h.y.keep (Fr.drew (fun _ => False) _) (fun _ _ e => e), h.ap, h.xl, h.yl, h.b9, h.b11, h.low.drew, h.big⟩
theorem LM.xduo {w wr : World} {B K g9 g11 b r : Nat} {P2 Q2 : Option Addr} {X Y : Nat → Prop} (h : LM w wr B K g9 g11 (some ⟨b + 1, 0, none⟩) (some ⟨r + 1, 0, none⟩) P2 Q2 X Y) : ∃ n S R v, Duo wr B b r n S R v K ∧ X = DX b r S.rows.length v := by
  rcases h.x with h | ⟨b', r', n, S, R, v, h1, h2, h, h4⟩
  · cases h.1
  · cases h1; cases h2
    exact ⟨n, S, R, v, h, h4⟩
theorem LM.yduo {w wr : World} {B K g9 g11 b r : Nat} {P1 Q1 : Option Addr} {X Y : Nat → Prop} (h : LM w wr B K g9 g11 P1 Q1 (some ⟨b + 1, 0, none⟩) (some ⟨r + 1, 0, none⟩) X Y) : ∃ n S R v, Duo wr B b r n S R v K ∧ Y = DX b r S.rows.length v := by
  rcases h.y with h | ⟨b', r', n, S, R, v, h1, h2, h, h4⟩
  · cases h.1
  · cases h1; cases h2
    exact ⟨n, S, R, v, h, h4⟩
theorem LM.xkind {w wr : World} {B K g9 g11 : Nat} {P1 Q1 P2 Q2 : Option Addr} {X Y : Nat → Prop} (h : LM w wr B K g9 g11 P1 Q1 P2 Q2 X Y) : (P1 = none ∧ Q1 = none) ∨ ∃ b r : Nat, P1 = some ⟨b + 1, 0, none⟩ ∧ Q1 = some ⟨r + 1, 0, none⟩ := by
  rcases h.x with h | ⟨b, r, n, S, R, v, h1, h2, _⟩
  · exact .inl ⟨h.1, h.2.1⟩
  · exact .inr ⟨b, r, h1, h2⟩
theorem LM.ykind {w wr : World} {B K g9 g11 : Nat} {P1 Q1 P2 Q2 : Option Addr} {X Y : Nat → Prop} (h : LM w wr B K g9 g11 P1 Q1 P2 Q2 X Y) : (P2 = none ∧ Q2 = none) ∨ ∃ b r : Nat, P2 = some ⟨b + 1, 0, none⟩ ∧ Q2 = some ⟨r + 1, 0, none⟩ := by
  rcases h.y with h | ⟨b, r, n, S, R, v, h1, h2, _⟩
  · exact .inl ⟨h.1, h.2.1⟩
  · exact .inr ⟨b, r, h1, h2⟩
set_option maxRecDepth 100000 in
set_option maxHeartbeats 16000000 in
theorem law_acts (sa sb : Int × Int) (A1 : Option Addr) (N1 c1 : Nat) (xs : List Ac) (A2 : Option Addr) (N2 c2 : Nat) (ys : List Ac) (w : World) (_ : g64 sa.1 ∧ g64 sa.2) (_ : g64 sb.1 ∧ g64 sb.2) (h1 : Sl w 6 48 fA gA A1 N1 c1 xs) (h2 : Sl w 6 48 fA gA A2 N2 c2 ys) :
    Calls Try.prog 5 #[.agg #[.int .i64 sa.1, .int .i64 sa.2], .agg #[.int .i64 sb.1, .int .i64 sb.2], .slice A1 N1 c1, .slice A2 N2 c2] w fun e w' => e = .returned (.bool true) ∧ Below w.heap.size w w' := by
  obtain ⟨s1, s2⟩ := sa
  obtain ⟨s3, s4⟩ := sb
  have hN1 : N1 ≤ 2932031007403 := by have := h1.room; omega
  have hN2 : N2 ≤ 2932031007403 := by have := h2.room; omega
  have hc1 : N1 ≤ c1 := h1.cap
  have hc2 : N2 ≤ c2 := h2.cap
  have R1 := Mm.hid (rdA_of h1.len h1.rd)
  have R2 := Mm.hid (rdA_of h2.len h2.rd)
  clear h1 h2
  simp only
  have T4 := Mm.hid (two_new w #[.int .i64 s1, .int .i64 s2] #[.int .i64 s3, .int .i64 s4] 37)
  have B0 : Hid (Below w.heap.size w ((w.alloc (.cells #[.int .i64 s1, .int .i64 s2] 37)).alloc (.cells #[.int .i64 s3, .int .i64 s4] 37))) := ((Below.refl w.heap.size w).alloc (Nat.le_refl _) _).alloc (by simp) _
  have X5 : Hid (Blk ((w.alloc (.cells #[.int .i64 s1, .int .i64 s2] 37)).alloc (.cells #[.int .i64 s3, .int .i64 s4] 37)) (w.heap.size + 1) 37 #[.int .i64 s3, .int .i64 s4]) := T4.out.2.1
  have e0 : ((w.alloc (.cells #[.int .i64 s1, .int .i64 s2] 37)).alloc (.cells #[.int .i64 s3, .int .i64 s4] 37)).heap.size = w.heap.size + 2 := by simp
  go_enter Try.func5, Try.ntmps5
  go_wp2_with fail
  refine (made_x s1 s2 _).mono ?_
  rintro e w1 ⟨P1, Q1, X, rfl, hb1, hx1, hx2⟩
  have B1 : Hid (Below w.heap.size w w1) := B0.out.trans (hb1.out.mono (by rw [e0]; omega))
  have Y5 : Hid (Blk w1 (w.heap.size + 1) 37 #[.int .i64 s3, .int .i64 s4]) := X5.out.keep (hb1.out.block _ (by rw [e0]; omega))
  have l1 : w.heap.size + 2 ≤ w1.heap.size := by have := hb1.out.size; rw [e0] at this; exact this
  rw [e0] at hx1
  clear hb1 X5 T4 e0
  have z0 : w1.cell? ⟨w.heap.size + 1, 0, none⟩ = some (.int .i64 s3) := Y5.out.cell 0
  have z1 : w1.cell? ⟨w.heap.size + 1, 1, none⟩ = some (.int .i64 s4) := Y5.out.cell 1
  have B9 : Hid (Below w.heap.size w (w1.alloc (.cells #[.pointer P1, .pointer Q1] 40))) := B1.out.alloc (by omega) _
  have G9 := Mm.hid (Blk.new w1 #[.pointer P1, .pointer Q1] 40)
  have e9 : (w1.alloc (.cells #[.pointer P1, .pointer Q1] 40)).heap.size = w1.heap.size + 1 := by simp
  have K5 := Mm.hid (Y5.out.keep (Below.heap_alloc w1 (.cells #[.pointer P1, .pointer Q1] 40) _ (by omega)))
  have z2 : (w1.alloc (.cells #[.pointer P1, .pointer Q1] 40)).cell? ⟨w.heap.size + 1, 0, none⟩ = some (.int .i64 s3) := K5.out.cell 0
  have z3 : (w1.alloc (.cells #[.pointer P1, .pointer Q1] 40)).cell? ⟨w.heap.size + 1, 1, none⟩ = some (.int .i64 s4) := K5.out.cell 1
  have zn : ¬ w.heap.size + 1 = w1.heap.size := by omega
  go_wp2_with fail
  refine (made_x s3 s4 _).mono ?_
  rintro e w2 ⟨P2, Q2, Y, rfl, hb2, hy1, hy2⟩
  have B2 : Hid (Below w.heap.size w w2) := B9.out.trans (hb2.out.mono (by rw [e9]; omega))
  have K9 : Hid (Blk w2 w1.heap.size 40 #[.pointer P1, .pointer Q1]) := G9.out.keep (hb2.out.block _ (by rw [e9]; omega))
  have l2 : w1.heap.size + 1 ≤ w2.heap.size := by have := hb2.out.size; rw [e9] at this; exact this
  rw [e9] at hy1
  have FX : Hid (Fr (fun _ => False) w1 w2) := (Fr.alloc _ w1 (.cells #[.pointer P1, .pointer Q1] 40)).trans (Fr.of_below hb2.out) fun _ _ e => e
  clear hb2 e9 G9 z0 z1 z2 z3 zn K5 Y5
  have LM0 : Hid (LM w (w2.alloc (.cells #[.pointer P2, .pointer Q2] 40)) (w2.heap.size + 1) (2 * 0) w1.heap.size w2.heap.size P1 Q1 P2 Q2 X Y) := by
    have FA : Fr (fun _ => False) w2 (w2.alloc (.cells #[.pointer P2, .pointer Q2] 40)) := Fr.alloc _ _ _
    refine ⟨((hx2.out _ (by omega)).more (Nat.zero_le _)).keep (FX.out.trans FA fun _ _ e => e) (fun _ _ e => e), ((hy2.out _ (by omega)).more (Nat.zero_le _)).keep FA (fun _ _ e => e), fun k h1 h2 => ?_, fun k h => ?_, fun k h => ?_, FA.blk K9.out (fun e => e), Blk.new w2 _ 40, B2.out.alloc (by omega) _, by simp⟩
    · have := hx1.out k h1; have := hy1.out k h2; omega
    · have := hx1.out k h; omega
    · have := hy1.out k h; omega
  clear hx1 hx2 hy1 hy2 K9 FX B2 B9 B1 B0
  generalize w1.heap.size = g9 at *
  go_wp2_with fail
  go_loopw [10, 13] (fun t i wr => ∃ (k : Nat) (X Y : Nat → Prop), (k ≤ N1 ∨ k ≤ N2) ∧ t = .bool true ∧ i = .int .i64 (k : Nat) ∧ Hid (LM w wr (w2.heap.size + 1) (2 * k) g9 w2.heap.size P1 Q1 P2 Q2 X Y)) (fun _ i _ => N1 + N2 - (intOf i).toNat)
  case atStart => exact ⟨0, X, Y, .inl (Nat.zero_le _), rfl, rfl, LM0.out⟩
  case round =>
    obtain ⟨k, X, Y, hk, rfl, rfl, HL⟩ := hrel
    clear LM0
    generalize w2.heap.size = g11 at *
    have hkk : k ≤ 2932031007403 := by omega
    have bz1 := HL.out.b9.cell 0
    have bz2 := HL.out.b9.cell 1
    have bz3 := HL.out.b11.cell 0
    have bz4 := HL.out.b11.cell 1
    have n0 : wr.cell? ⟨g9, 0, none⟩ = some (.pointer P1) := bz1
    have n1 : wr.cell? ⟨g9, 1, none⟩ = some (.pointer Q1) := bz2
    have n2 : wr.cell? ⟨g11, 0, none⟩ = some (.pointer P2) := bz3
    have n3 : wr.cell? ⟨g11, 1, none⟩ = some (.pointer Q2) := bz4
    clear bz1 bz2 bz3 bz4
    by_cases hlt1 : k < N1
    · have d1 : (k : Int) < (N1 : Int) := by omega
      rcases HL.out.xkind with ⟨rfl, rfl⟩ | ⟨b, r, rfl, rfl⟩
      · have HM := Mm.hid (HL.out.more (by omega : 2 * k ≤ 2 * k + 1))
        go_upto_region 12 with (fail)
        by_cases hl2 : k < N2
        · have d2 : (k : Int) < (N2 : Int) := by omega
          rcases HM.out.ykind with ⟨rfl, rfl⟩ | ⟨b2, r2, rfl, rfl⟩
          · skip
            go_wp2
            go_roundw
            case rel => exact ⟨k + 1, _, _, by omega, rfl, by go_num, HM.out.more (by omega)⟩
            case measure => simp [intOf]; omega
          · skip
            obtain ⟨n, S, R, v, hd, hX⟩ := HM.out.yduo
            have D := Mm.hid hd
            have EX := Mm.hid hX
            clear hd hX
            obtain ⟨ad, hA, _, hcell⟩ := (R2.out.below HM.out.low).2 (by omega)
            subst hA
            obtain ⟨x, hx⟩ : ∃ x, ys[k]? = some x := ⟨_, List.getElem?_eq_getElem (by have := R2.out.1; omega)⟩
            obtain ⟨e0, e1, e2, e3, e4, e5⟩ := hcell k x hx
            obtain ⟨xd, xt, x1, x2, x3, xl⟩ := x
            simp only at e0 e1 e2 e3 e4 e5
            have kI : (0 : Int) ≤ (k : Int) := by omega
            have kN : (k : Int) < (N2 : Int) := by omega
            have HX := Mm.hid hx
            clear hx hcell
            go_wp2_with fail
            go_region_held3 (fun w' => w'.cell? ⟨g11, 0, none⟩ = some (.pointer (some ⟨b2 + 1, 0, none⟩)) ∧ w'.cell? ⟨g11, 1, none⟩ = some (.pointer (some ⟨r2 + 1, 0, none⟩)) ∧ w'.cell? (ad.add (k * 6)) = some (.int .i64 xd) ∧ w'.cell? ⟨(ad.add (k * 6)).block, (ad.add (k * 6)).off + 1, none⟩ = some (.int .i64 xt) ∧ w'.cell? ⟨(ad.add (k * 6)).block, (ad.add (k * 6)).off + 2, none⟩ = some (.int .i64 x1) ∧ w'.cell? ⟨(ad.add (k * 6)).block, (ad.add (k * 6)).off + 3, none⟩ = some (.int .i64 x2) ∧ w'.cell? ⟨(ad.add (k * 6)).block, (ad.add (k * 6)).off + 4, none⟩ = some (.int .i64 x3) ∧ w'.cell? ⟨(ad.add (k * 6)).block, (ad.add (k * 6)).off + 5, none⟩ = some (.bool xl)) (go_keep)
              (first | (go_at_call 16; refine (one_act _ b2 r2 n S R v _ ⟨xd, xt, x1, x2, x3, xl⟩ _ (by exact D.out.keep (Fr.drew (fun _ => False) _) (fun _ _ e => e)) (by omega) (by exact HM.out.big)).mono ?_; rintro e w6 ⟨rfl, X6, hx6, hf6, ho6⟩; have H6 := Mm.hid (HM.out.drew.stepY (J := 2 * k + 1 + 1) hx6.out (by rw [EX.out]; exact hf6.out) (by rw [EX.out]; exact ho6.out) (by omega)); have z0 : w6.cell? ⟨g11, 0, none⟩ = some (.pointer (some ⟨b2 + 1, 0, none⟩)) := H6.out.b11.cell 0; have z1 : w6.cell? ⟨g11, 1, none⟩ = some (.pointer (some ⟨r2 + 1, 0, none⟩)) := H6.out.b11.cell 1; obtain ⟨ad6, had6, _, hc6⟩ := (R2.out.below H6.out.low).2 (by omega); cases had6; obtain ⟨y0, y1, y2, y3, y4, y5⟩ := hc6 k _ HX.out; simp only at y0 y1 y2 y3 y4 y5; clear hx6 hf6 ho6 hc6))
            have HN := H6
            go_wp2
            go_roundw
            case rel => exact ⟨k + 1, _, _, by omega, rfl, by go_num, HN.out⟩
            case measure => simp [intOf]; omega
        · have d2 : ¬ (k : Int) < (N2 : Int) := by omega
          go_wp2
          go_roundw
          case rel => exact ⟨k + 1, _, _, by omega, rfl, by go_num, HM.out.more (by omega)⟩
          case measure => simp [intOf]; omega
      · skip
        obtain ⟨n, S, R, v, hd, hX⟩ := HL.out.xduo
        have D := Mm.hid hd
        have EX := Mm.hid hX
        clear hd hX
        obtain ⟨ad, hA, _, hcell⟩ := (R1.out.below HL.out.low).2 (by omega)
        subst hA
        obtain ⟨x, hx⟩ : ∃ x, xs[k]? = some x := ⟨_, List.getElem?_eq_getElem (by have := R1.out.1; omega)⟩
        obtain ⟨e0, e1, e2, e3, e4, e5⟩ := hcell k x hx
        obtain ⟨xd, xt, x1, x2, x3, xl⟩ := x
        simp only at e0 e1 e2 e3 e4 e5
        have kI : (0 : Int) ≤ (k : Int) := by omega
        have kN : (k : Int) < (N1 : Int) := by omega
        have HX := Mm.hid hx
        clear hx hcell
        go_wp2_with fail
        go_region_held3 (fun w' => w'.cell? ⟨g9, 0, none⟩ = some (.pointer (some ⟨b + 1, 0, none⟩)) ∧ w'.cell? ⟨g9, 1, none⟩ = some (.pointer (some ⟨r + 1, 0, none⟩)) ∧ w'.cell? (ad.add (k * 6)) = some (.int .i64 xd) ∧ w'.cell? ⟨(ad.add (k * 6)).block, (ad.add (k * 6)).off + 1, none⟩ = some (.int .i64 xt) ∧ w'.cell? ⟨(ad.add (k * 6)).block, (ad.add (k * 6)).off + 2, none⟩ = some (.int .i64 x1) ∧ w'.cell? ⟨(ad.add (k * 6)).block, (ad.add (k * 6)).off + 3, none⟩ = some (.int .i64 x2) ∧ w'.cell? ⟨(ad.add (k * 6)).block, (ad.add (k * 6)).off + 4, none⟩ = some (.int .i64 x3) ∧ w'.cell? ⟨(ad.add (k * 6)).block, (ad.add (k * 6)).off + 5, none⟩ = some (.bool xl)) (go_keep)
          (first | (go_at_call 16; refine (one_act _ b r n S R v _ ⟨xd, xt, x1, x2, x3, xl⟩ _ (by exact D.out.keep (Fr.drew (fun _ => False) _) (fun _ _ e => e)) (by omega) (by exact HL.out.big)).mono ?_; rintro e w6 ⟨rfl, X6, hx6, hf6, ho6⟩; have H6 := Mm.hid (HL.out.drew.stepX (J := 2 * k + 1) hx6.out (by rw [EX.out]; exact hf6.out) (by rw [EX.out]; exact ho6.out) (by omega)); have z0 : w6.cell? ⟨g9, 0, none⟩ = some (.pointer (some ⟨b + 1, 0, none⟩)) := H6.out.b9.cell 0; have z1 : w6.cell? ⟨g9, 1, none⟩ = some (.pointer (some ⟨r + 1, 0, none⟩)) := H6.out.b9.cell 1; obtain ⟨ad6, had6, _, hc6⟩ := (R1.out.below H6.out.low).2 (by omega); cases had6; obtain ⟨y0, y1, y2, y3, y4, y5⟩ := hc6 k _ HX.out; simp only at y0 y1 y2 y3 y4 y5; clear hx6 hf6 ho6 hc6))
        clear e0 e1 e2 e3 e4 e5 n0 n1 n2 n3
        have HM := H6
        have n2 : w6.cell? ⟨g11, 0, none⟩ = some (.pointer P2) := HM.out.b11.cell 0
        have n3 : w6.cell? ⟨g11, 1, none⟩ = some (.pointer Q2) := HM.out.b11.cell 1
        go_upto_region 12 with (fail)
        by_cases hl2 : k < N2
        · have d2 : (k : Int) < (N2 : Int) := by omega
          rcases HM.out.ykind with ⟨rfl, rfl⟩ | ⟨b2, r2, rfl, rfl⟩
          · skip
            go_wp2
            go_roundw
            case rel => exact ⟨k + 1, _, _, by omega, rfl, by go_num, HM.out.more (by omega)⟩
            case measure => simp [intOf]; omega
          · skip
            obtain ⟨n, S, R, v, hd, hX⟩ := HM.out.yduo
            have D := Mm.hid hd
            have EX := Mm.hid hX
            clear hd hX
            obtain ⟨ad, hA, _, hcell⟩ := (R2.out.below HM.out.low).2 (by omega)
            subst hA
            obtain ⟨x, hx⟩ : ∃ x, ys[k]? = some x := ⟨_, List.getElem?_eq_getElem (by have := R2.out.1; omega)⟩
            obtain ⟨e0, e1, e2, e3, e4, e5⟩ := hcell k x hx
            obtain ⟨xd, xt, x1, x2, x3, xl⟩ := x
            simp only at e0 e1 e2 e3 e4 e5
            have kI : (0 : Int) ≤ (k : Int) := by omega
            have kN : (k : Int) < (N2 : Int) := by omega
            have HX := Mm.hid hx
            clear hx hcell
            go_wp2_with fail
            go_region_held3 (fun w' => w'.cell? ⟨g11, 0, none⟩ = some (.pointer (some ⟨b2 + 1, 0, none⟩)) ∧ w'.cell? ⟨g11, 1, none⟩ = some (.pointer (some ⟨r2 + 1, 0, none⟩)) ∧ w'.cell? (ad.add (k * 6)) = some (.int .i64 xd) ∧ w'.cell? ⟨(ad.add (k * 6)).block, (ad.add (k * 6)).off + 1, none⟩ = some (.int .i64 xt) ∧ w'.cell? ⟨(ad.add (k * 6)).block, (ad.add (k * 6)).off + 2, none⟩ = some (.int .i64 x1) ∧ w'.cell? ⟨(ad.add (k * 6)).block, (ad.add (k * 6)).off + 3, none⟩ = some (.int .i64 x2) ∧ w'.cell? ⟨(ad.add (k * 6)).block, (ad.add (k * 6)).off + 4, none⟩ = some (.int .i64 x3) ∧ w'.cell? ⟨(ad.add (k * 6)).block, (ad.add (k * 6)).off + 5, none⟩ = some (.bool xl)) (go_keep)
              (first | (go_at_call 16; refine (one_act _ b2 r2 n S R v _ ⟨xd, xt, x1, x2, x3, xl⟩ _ (by exact D.out.keep (Fr.drew (fun _ => False) _) (fun _ _ e => e)) (by omega) (by exact HM.out.big)).mono ?_; rintro e w6 ⟨rfl, X6, hx6, hf6, ho6⟩; have H6 := Mm.hid (HM.out.drew.stepY (J := 2 * k + 1 + 1) hx6.out (by rw [EX.out]; exact hf6.out) (by rw [EX.out]; exact ho6.out) (by omega)); have z0 : w6.cell? ⟨g11, 0, none⟩ = some (.pointer (some ⟨b2 + 1, 0, none⟩)) := H6.out.b11.cell 0; have z1 : w6.cell? ⟨g11, 1, none⟩ = some (.pointer (some ⟨r2 + 1, 0, none⟩)) := H6.out.b11.cell 1; obtain ⟨ad6, had6, _, hc6⟩ := (R2.out.below H6.out.low).2 (by omega); cases had6; obtain ⟨y0, y1, y2, y3, y4, y5⟩ := hc6 k _ HX.out; simp only at y0 y1 y2 y3 y4 y5; clear hx6 hf6 ho6 hc6))
            have HN := H6
            go_wp2
            go_roundw
            case rel => exact ⟨k + 1, _, _, by omega, rfl, by go_num, HN.out⟩
            case measure => simp [intOf]; omega
        · have d2 : ¬ (k : Int) < (N2 : Int) := by omega
          go_wp2
          go_roundw
          case rel => exact ⟨k + 1, _, _, by omega, rfl, by go_num, HM.out.more (by omega)⟩
          case measure => simp [intOf]; omega
    · have d1 : ¬ (k : Int) < (N1 : Int) := by omega
      by_cases hlt2 : k < N2
      · have d2 : (k : Int) < (N2 : Int) := by omega
        have HM := Mm.hid (HL.out.more (by omega : 2 * k ≤ 2 * k + 1))
        go_upto_region 12 with (fail)
        rcases HM.out.ykind with ⟨rfl, rfl⟩ | ⟨b2, r2, rfl, rfl⟩
        · skip
          go_wp2
          go_roundw
          case rel => exact ⟨k + 1, _, _, by omega, rfl, by go_num, HM.out.more (by omega)⟩
          case measure => simp [intOf]; omega
        · skip
          obtain ⟨n, S, R, v, hd, hX⟩ := HM.out.yduo
          have D := Mm.hid hd
          have EX := Mm.hid hX
          clear hd hX
          obtain ⟨ad, hA, _, hcell⟩ := (R2.out.below HM.out.low).2 (by omega)
          subst hA
          obtain ⟨x, hx⟩ : ∃ x, ys[k]? = some x := ⟨_, List.getElem?_eq_getElem (by have := R2.out.1; omega)⟩
          obtain ⟨e0, e1, e2, e3, e4, e5⟩ := hcell k x hx
          obtain ⟨xd, xt, x1, x2, x3, xl⟩ := x
          simp only at e0 e1 e2 e3 e4 e5
          have kI : (0 : Int) ≤ (k : Int) := by omega
          have kN : (k : Int) < (N2 : Int) := by omega
          have HX := Mm.hid hx
          clear hx hcell
          go_wp2_with fail
          go_region_held3 (fun w' => w'.cell? ⟨g11, 0, none⟩ = some (.pointer (some ⟨b2 + 1, 0, none⟩)) ∧ w'.cell? ⟨g11, 1, none⟩ = some (.pointer (some ⟨r2 + 1, 0, none⟩)) ∧ w'.cell? (ad.add (k * 6)) = some (.int .i64 xd) ∧ w'.cell? ⟨(ad.add (k * 6)).block, (ad.add (k * 6)).off + 1, none⟩ = some (.int .i64 xt) ∧ w'.cell? ⟨(ad.add (k * 6)).block, (ad.add (k * 6)).off + 2, none⟩ = some (.int .i64 x1) ∧ w'.cell? ⟨(ad.add (k * 6)).block, (ad.add (k * 6)).off + 3, none⟩ = some (.int .i64 x2) ∧ w'.cell? ⟨(ad.add (k * 6)).block, (ad.add (k * 6)).off + 4, none⟩ = some (.int .i64 x3) ∧ w'.cell? ⟨(ad.add (k * 6)).block, (ad.add (k * 6)).off + 5, none⟩ = some (.bool xl)) (go_keep)
            (first | (go_at_call 16; refine (one_act _ b2 r2 n S R v _ ⟨xd, xt, x1, x2, x3, xl⟩ _ (by exact D.out.keep (Fr.drew (fun _ => False) _) (fun _ _ e => e)) (by omega) (by exact HM.out.big)).mono ?_; rintro e w6 ⟨rfl, X6, hx6, hf6, ho6⟩; have H6 := Mm.hid (HM.out.drew.stepY (J := 2 * k + 1 + 1) hx6.out (by rw [EX.out]; exact hf6.out) (by rw [EX.out]; exact ho6.out) (by omega)); have z0 : w6.cell? ⟨g11, 0, none⟩ = some (.pointer (some ⟨b2 + 1, 0, none⟩)) := H6.out.b11.cell 0; have z1 : w6.cell? ⟨g11, 1, none⟩ = some (.pointer (some ⟨r2 + 1, 0, none⟩)) := H6.out.b11.cell 1; obtain ⟨ad6, had6, _, hc6⟩ := (R2.out.below H6.out.low).2 (by omega); cases had6; obtain ⟨y0, y1, y2, y3, y4, y5⟩ := hc6 k _ HX.out; simp only at y0 y1 y2 y3 y4 y5; clear hx6 hf6 ho6 hc6))
          have HN := H6
          go_wp2
          go_roundw
          case rel => exact ⟨k + 1, _, _, by omega, rfl, by go_num, HN.out⟩
          case measure => simp [intOf]; omega
      · have d2 : ¬ (k : Int) < (N2 : Int) := by omega
        rcases HL.out.xkind with ⟨rfl, rfl⟩ | ⟨b, r, rfl, rfl⟩
        · skip
          rcases HL.out.ykind with ⟨rfl, rfl⟩ | ⟨b2, r2, rfl, rfl⟩
          · skip
            go_wp2
            go_ret
            exact ⟨rfl, HL.out.low⟩
          · skip
            obtain ⟨na3, Sa3, Ra3, va3, hda3, hXa3⟩ := HL.out.yduo
            have Da3 := Mm.hid hda3
            have EXa3 := Mm.hid hXa3
            clear hda3 hXa3
            go_wp2_with fail
            refine (one_act _ b2 r2 na3 Sa3 Ra3 va3 _ ⟨4, 0, 0, 0, 0, false⟩ _ Da3.out (by omega) (by exact HL.out.big)).mono ?_
            rintro e wa3 ⟨rfl, Xa3, hx6, hf6, ho6⟩
            have Ha3 := Mm.hid (HL.out.stepY (J := 2 * k + 1) hx6.out (by rw [EXa3.out]; exact hf6.out) (by rw [EXa3.out]; exact ho6.out) (by omega))
            clear hx6 hf6 ho6
            have m0a3 : wa3.cell? ⟨g9, 0, none⟩ = some (.pointer none) := Ha3.out.b9.cell 0
            have m1a3 : wa3.cell? ⟨g9, 1, none⟩ = some (.pointer none) := Ha3.out.b9.cell 1
            have m2a3 : wa3.cell? ⟨g11, 0, none⟩ = some (.pointer (some ⟨b2 + 1, 0, none⟩)) := Ha3.out.b11.cell 0
            have m3a3 : wa3.cell? ⟨g11, 1, none⟩ = some (.pointer (some ⟨r2 + 1, 0, none⟩)) := Ha3.out.b11.cell 1
            obtain ⟨na4, Sa4, Ra4, va4, hda4, hXa4⟩ := Ha3.out.yduo
            have Da4 := Mm.hid hda4
            have EXa4 := Mm.hid hXa4
            clear hda4 hXa4
            go_wp2_with fail
            refine (one_act _ b2 r2 na4 Sa4 Ra4 va4 _ ⟨5, 0, 0, 0, 0, false⟩ _ Da4.out (by omega) (by exact Ha3.out.big)).mono ?_
            rintro e wa4 ⟨rfl, Xa4, hx6, hf6, ho6⟩
            have Ha4 := Mm.hid (Ha3.out.stepY (J := 2 * k + 1 + 1) hx6.out (by rw [EXa4.out]; exact hf6.out) (by rw [EXa4.out]; exact ho6.out) (by omega))
            clear hx6 hf6 ho6
            have m0a4 : wa4.cell? ⟨g9, 0, none⟩ = some (.pointer none) := Ha4.out.b9.cell 0
            have m1a4 : wa4.cell? ⟨g9, 1, none⟩ = some (.pointer none) := Ha4.out.b9.cell 1
            have m2a4 : wa4.cell? ⟨g11, 0, none⟩ = some (.pointer (some ⟨b2 + 1, 0, none⟩)) := Ha4.out.b11.cell 0
            have m3a4 : wa4.cell? ⟨g11, 1, none⟩ = some (.pointer (some ⟨r2 + 1, 0, none⟩)) := Ha4.out.b11.cell 1
            go_wp2
            go_ret
            exact ⟨rfl, Ha4.out.low⟩
        · skip
          obtain ⟨np1, Sp1, Rp1, vp1, hdp1, hXp1⟩ := HL.out.xduo
          have Dp1 := Mm.hid hdp1
          have EXp1 := Mm.hid hXp1
          clear hdp1 hXp1
          go_wp2_with fail
          refine (one_act _ b r np1 Sp1 Rp1 vp1 _ ⟨4, 0, 0, 0, 0, false⟩ _ Dp1.out (by omega) (by exact HL.out.big)).mono ?_
          rintro e wp1 ⟨rfl, Xp1, hx6, hf6, ho6⟩
          have Hp1 := Mm.hid (HL.out.stepX (J := 2 * k + 1) hx6.out (by rw [EXp1.out]; exact hf6.out) (by rw [EXp1.out]; exact ho6.out) (by omega))
          clear hx6 hf6 ho6
          have m0p1 : wp1.cell? ⟨g9, 0, none⟩ = some (.pointer (some ⟨b + 1, 0, none⟩)) := Hp1.out.b9.cell 0
          have m1p1 : wp1.cell? ⟨g9, 1, none⟩ = some (.pointer (some ⟨r + 1, 0, none⟩)) := Hp1.out.b9.cell 1
          have m2p1 : wp1.cell? ⟨g11, 0, none⟩ = some (.pointer P2) := Hp1.out.b11.cell 0
          have m3p1 : wp1.cell? ⟨g11, 1, none⟩ = some (.pointer Q2) := Hp1.out.b11.cell 1
          obtain ⟨np2, Sp2, Rp2, vp2, hdp2, hXp2⟩ := Hp1.out.xduo
          have Dp2 := Mm.hid hdp2
          have EXp2 := Mm.hid hXp2
          clear hdp2 hXp2
          go_wp2_with fail
          refine (one_act _ b r np2 Sp2 Rp2 vp2 _ ⟨5, 0, 0, 0, 0, false⟩ _ Dp2.out (by omega) (by exact Hp1.out.big)).mono ?_
          rintro e wp2 ⟨rfl, Xp2, hx6, hf6, ho6⟩
          have Hp2 := Mm.hid (Hp1.out.stepX (J := 2 * k + 1 + 1) hx6.out (by rw [EXp2.out]; exact hf6.out) (by rw [EXp2.out]; exact ho6.out) (by omega))
          clear hx6 hf6 ho6
          have m0p2 : wp2.cell? ⟨g9, 0, none⟩ = some (.pointer (some ⟨b + 1, 0, none⟩)) := Hp2.out.b9.cell 0
          have m1p2 : wp2.cell? ⟨g9, 1, none⟩ = some (.pointer (some ⟨r + 1, 0, none⟩)) := Hp2.out.b9.cell 1
          have m2p2 : wp2.cell? ⟨g11, 0, none⟩ = some (.pointer P2) := Hp2.out.b11.cell 0
          have m3p2 : wp2.cell? ⟨g11, 1, none⟩ = some (.pointer Q2) := Hp2.out.b11.cell 1
          rcases Hp2.out.ykind with ⟨rfl, rfl⟩ | ⟨b2, r2, rfl, rfl⟩
          · skip
            go_wp2
            go_ret
            exact ⟨rfl, Hp2.out.low⟩
          · skip
            obtain ⟨nq3, Sq3, Rq3, vq3, hdq3, hXq3⟩ := Hp2.out.yduo
            have Dq3 := Mm.hid hdq3
            have EXq3 := Mm.hid hXq3
            clear hdq3 hXq3
            go_wp2_with fail
            refine (one_act _ b2 r2 nq3 Sq3 Rq3 vq3 _ ⟨4, 0, 0, 0, 0, false⟩ _ Dq3.out (by omega) (by exact Hp2.out.big)).mono ?_
            rintro e wq3 ⟨rfl, Xq3, hx6, hf6, ho6⟩
            have Hq3 := Mm.hid (Hp2.out.stepY (J := 2 * k + 1 + 1 + 1) hx6.out (by rw [EXq3.out]; exact hf6.out) (by rw [EXq3.out]; exact ho6.out) (by omega))
            clear hx6 hf6 ho6
            have m0q3 : wq3.cell? ⟨g9, 0, none⟩ = some (.pointer (some ⟨b + 1, 0, none⟩)) := Hq3.out.b9.cell 0
            have m1q3 : wq3.cell? ⟨g9, 1, none⟩ = some (.pointer (some ⟨r + 1, 0, none⟩)) := Hq3.out.b9.cell 1
            have m2q3 : wq3.cell? ⟨g11, 0, none⟩ = some (.pointer (some ⟨b2 + 1, 0, none⟩)) := Hq3.out.b11.cell 0
            have m3q3 : wq3.cell? ⟨g11, 1, none⟩ = some (.pointer (some ⟨r2 + 1, 0, none⟩)) := Hq3.out.b11.cell 1
            obtain ⟨nq4, Sq4, Rq4, vq4, hdq4, hXq4⟩ := Hq3.out.yduo
            have Dq4 := Mm.hid hdq4
            have EXq4 := Mm.hid hXq4
            clear hdq4 hXq4
            go_wp2_with fail
            refine (one_act _ b2 r2 nq4 Sq4 Rq4 vq4 _ ⟨5, 0, 0, 0, 0, false⟩ _ Dq4.out (by omega) (by exact Hq3.out.big)).mono ?_
            rintro e wq4 ⟨rfl, Xq4, hx6, hf6, ho6⟩
            have Hq4 := Mm.hid (Hq3.out.stepY (J := 2 * k + 1 + 1 + 1 + 1) hx6.out (by rw [EXq4.out]; exact hf6.out) (by rw [EXq4.out]; exact ho6.out) (by omega))
            clear hx6 hf6 ho6
            have m0q4 : wq4.cell? ⟨g9, 0, none⟩ = some (.pointer (some ⟨b + 1, 0, none⟩)) := Hq4.out.b9.cell 0
            have m1q4 : wq4.cell? ⟨g9, 1, none⟩ = some (.pointer (some ⟨r + 1, 0, none⟩)) := Hq4.out.b9.cell 1
            have m2q4 : wq4.cell? ⟨g11, 0, none⟩ = some (.pointer (some ⟨b2 + 1, 0, none⟩)) := Hq4.out.b11.cell 0
            have m3q4 : wq4.cell? ⟨g11, 1, none⟩ = some (.pointer (some ⟨r2 + 1, 0, none⟩)) := Hq4.out.b11.cell 1
            go_wp2
            go_ret
            exact ⟨rfl, Hq4.out.low⟩
end Go.Proofs.Ythojgfnaanckeaa

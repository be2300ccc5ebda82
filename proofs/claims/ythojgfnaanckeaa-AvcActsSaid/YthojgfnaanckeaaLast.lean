/- A script of acts, opened; its last Put of a triple. -/
import Derived.Test.YthojgfnaanckeaaAlive
namespace Go.Proofs.Ythojgfnaanckeaa
open Go.RowKit Go.Mm
structure Ac where
  do_ : Int
  tag : Int
  s : Int
  o : Int
  a : Int
  al : Bool
def fA (x : Ac) : List Value := [.int .i64 x.do_, .int .i64 x.tag, .int .i64 x.s, .int .i64 x.o, .int .i64 x.a, .bool x.al]
def g64 (x : Int) : Prop := (Lit.int .i64 x).wf = true
def gA (x : Ac) : Prop := g64 x.do_ ∧ g64 x.tag ∧ g64 x.s ∧ g64 x.o ∧ g64 x.a
section
variable {H : Type} {enc : TypeId × Value → H} {w : World} {b0 : Nat} {spare : Nat → Bool} {held : Bool} {v : Value} {d : DataW H} {ps : List MemPlace} {ts : List TypeId} {ds : List (DataW H)} {j : Nat}
theorem trod_act {n : Nat} {cs : List Value} {x : DataW H × List MemPlace} (h : DataW.trod enc Try.prog w 0 spare held n 45 cs = some x) : ∃ y, fA y = cs ∧ gA y := by
  obtain ⟨xs, k, _, _, hl, hlen, hf⟩ := DataW.trod_struct Try.underlying45 h
  have hc : Try.prog.cellsOf 45 = 6 := by kernel_rfl
  have hc3 : Try.prog.cellsOf 3 = 1 := by kernel_rfl
  have hc4 : Try.prog.cellsOf 4 = 1 := by kernel_rfl
  rw [hc] at hl
  match cs, hl, xs, hlen, hf with
  | [c0, c1, c2, c3, c4, c5], _, [x0, x1, x2, x3, x4, x5], _, hf =>
    have e0 := hf 0 _ rfl
    have e1 := hf 1 _ rfl
    have e2 := hf 2 _ rfl
    have e3 := hf 3 _ rfl
    have e4 := hf 4 _ rfl
    have e5 := hf 5 _ rfl
    obtain ⟨a, r0, _, w0⟩ := DataW.trod_int Try.underlying3 (show DataW.trod enc Try.prog w 0 spare held k 3 [c0] = some x0 from e0)
    obtain ⟨b, r1, _, w1⟩ := DataW.trod_int Try.underlying3 (show DataW.trod enc Try.prog w 0 spare held k 3 [c1] = some x1 from e1)
    obtain ⟨c, r2, _, w2⟩ := DataW.trod_int Try.underlying3 (show DataW.trod enc Try.prog w 0 spare held k 3 [c2] = some x2 from e2)
    obtain ⟨d, r3, _, w3⟩ := DataW.trod_int Try.underlying3 (show DataW.trod enc Try.prog w 0 spare held k 3 [c3] = some x3 from e3)
    obtain ⟨e, r4, _, w4⟩ := DataW.trod_int Try.underlying3 (show DataW.trod enc Try.prog w 0 spare held k 3 [c4] = some x4 from e4)
    obtain ⟨f, r5, _⟩ := DataW.trod_bool Try.underlying4 (show DataW.trod enc Try.prog w 0 spare held k 4 [c5] = some x5 from e5)
    simp only [List.cons.injEq, and_true] at r0 r1 r2 r3 r4 r5
    subst r0; subst r1; subst r2; subst r3; subst r4; subst r5
    exact ⟨⟨a, b, c, d, e, f⟩, rfl, w0, w1, w2, w3, w4⟩
theorem open_acts (hval : Value.okWide Try.prog w .any b0 38 v) (hd : DataW.Trod enc Try.prog w 0 spare held 38 v d ps)
    (hz : (DataW.weightsEach Try.prog ts ds).all (· ≤ reachBytes) = true) (hj : ts[j]? = some 38) (hj' : ds[j]? = some d) :
    ∃ A n c xs, v = .slice A n c ∧ Sl w 6 48 fA gA A n c xs :=
  open_sl fA gA Try.underlying38 (by kernel_rfl) (by decide) (by kernel_rfl) (fun _ _ _ h => trod_act h) hval hd hz hj hj'
end
theorem fA_len (x : Ac) : (fA x).length = 6 := rfl
theorem add_field (a : Addr) (i j : Nat) (h : 0 < j) : a.add (i + j) = ⟨(a.add i).block, (a.add i).off + j, none⟩ := by
  unfold Addr.add
  rw [if_neg (by omega)]
  by_cases hi : i = 0 <;> simp [hi, Nat.add_assoc]
/-- a script that is read, act by act -/
def RdA (w : World) (A : Option Addr) (n : Nat) (xs : List Ac) : Prop :=
  xs.length = n ∧ (0 < n → ∃ ad, A = some ad ∧ ad.block < w.heap.size ∧ ∀ i x, xs[i]? = some x → w.cell? (ad.add (i * 6)) = some (.int .i64 x.do_) ∧ w.cell? ⟨(ad.add (i * 6)).block, (ad.add (i * 6)).off + 1, none⟩ = some (.int .i64 x.tag) ∧ w.cell? ⟨(ad.add (i * 6)).block, (ad.add (i * 6)).off + 2, none⟩ = some (.int .i64 x.s)
     ∧ w.cell? ⟨(ad.add (i * 6)).block, (ad.add (i * 6)).off + 3, none⟩ = some (.int .i64 x.o) ∧ w.cell? ⟨(ad.add (i * 6)).block, (ad.add (i * 6)).off + 4, none⟩ = some (.int .i64 x.a) ∧ w.cell? ⟨(ad.add (i * 6)).block, (ad.add (i * 6)).off + 5, none⟩ = some (.bool x.al))
theorem rdA_of {w : World} {A : Option Addr} {n : Nat} {xs : List Ac} (hl : xs.length = n) (h : Rd w A n 6 (xs.flatMap fA)) : RdA w A n xs := by
  refine ⟨hl, fun h0 => ?_⟩
  obtain ⟨ad, rfl, hb, hc⟩ := h.2 h0
  refine ⟨ad, rfl, hb, fun i x hx => ?_⟩
  have key : ∀ j u, j < 6 → (fA x)[j]? = some u → w.cell? (ad.add (i * 6 + j)) = some u := by
    intro j u hj hu
    exact hc _ _ (by rw [flatMap_at fA_len hx hj]; exact hu)
  have kf : ∀ j u, 0 < j → j < 6 → (fA x)[j]? = some u → w.cell? ⟨(ad.add (i * 6)).block, (ad.add (i * 6)).off + j, none⟩ = some u := by
    intro j u h0 hj hu
    rw [← add_field _ _ j h0]; exact key j u hj hu
  exact ⟨key 0 _ (by decide) rfl, kf 1 _ (by decide) (by decide) rfl, kf 2 _ (by decide) (by decide) rfl, kf 3 _ (by decide) (by decide) rfl, kf 4 _ (by decide) (by decide) rfl, kf 5 _ (by decide) (by decide) rfl⟩
theorem RdA.below {w w' : World} {A : Option Addr} {n : Nat} {xs : List Ac} (h : RdA w A n xs) (hb : Below w.heap.size w w') : RdA w' A n xs :=
  ⟨h.1, fun hn => by
    obtain ⟨ad, rfl, hl, hc⟩ := h.2 hn
    have hs : ∀ j, w'.cell? (ad.add j) = w.cell? (ad.add j) := fun j => hb.cell (by rw [add_block]; exact hl)
    have hs' : ∀ i j, w'.cell? ⟨(ad.add i).block, j, none⟩ = w.cell? ⟨(ad.add i).block, j, none⟩ := fun i j => hb.cell (by show (ad.add i).block < _; rw [add_block]; exact hl)
    exact ⟨ad, rfl, Nat.lt_of_lt_of_le hl hb.size, fun i s h => by simp only [hs, hs']; exact hc i s h⟩⟩
theorem RdA.take {w : World} {A : Option Addr} {n k : Nat} {xs : List Ac} (h : RdA w A n xs) (hk : k ≤ n) : RdA w A k (xs.take k) :=
  ⟨by rw [List.length_take, h.1]; omega, fun h0 => by
    obtain ⟨ad, rfl, hl, hc⟩ := h.2 (by omega)
    refine ⟨ad, rfl, hl, fun i x hx => hc i x ?_⟩
    rw [List.getElem?_take] at hx
    split at hx
    · exact hx
    · cases hx⟩
/-- the last Put of a triple -/
def isPut (x : Ac) (s o a : Int) : Bool := x.do_ == 2 && (x.s == s && (x.o == o && x.a == a))
def lastPut : List Ac → Int → Int → Int → Option Ac
  | [], _, _, _ => none
  | x :: l, s, o, a => match lastPut l s o a with
    | some y => some y
    | none => if isPut x s o a then some x else none
theorem lastPut_snoc (l : List Ac) (x : Ac) (s o a : Int) : lastPut (l ++ [x]) s o a = if isPut x s o a then some x else lastPut l s o a := by
  induction l with
  | nil => simp [lastPut]
  | cons y l ih =>
    rw [List.cons_append, lastPut, ih]
    by_cases h : isPut x s o a <;> simp [h, lastPut]
def Ac.zero : Ac := ⟨0, 0, 0, 0, 0, false⟩
def aV (x : Ac) : Value := .agg #[.int .i64 x.do_, .int .i64 x.tag, .int .i64 x.s, .int .i64 x.o, .int .i64 x.a, .bool x.al]
def LastEnds (l : List Ac) (s o a : Int) (w : World) (e : Ending) (w' : World) : Prop :=
  e = .returned (.tuple #[aV ((lastPut l s o a).getD Ac.zero), .bool (lastPut l s o a).isSome]) ∧ Below w.heap.size w w'
theorem take_last {l : List Ac} {k : Nat} {y : Ac} (hy : l[k]? = some y) (s o a : Int) : lastPut (l.take (k + 1)) s o a = if isPut y s o a then some y else lastPut (l.take k) s o a := by
  rw [← lastPut_snoc, List.take_add_one, hy]; rfl
theorem ret_act (a : Act) (W : World) (g : Nat) (y : Ac) (b : Bool) (Q : Ending → World → Prop) (hB : Blk W g 45 #[.int .i64 y.do_, .int .i64 y.tag, .int .i64 y.s, .int .i64 y.o, .int .i64 y.a, .bool y.al])
    (h4 : a.tmps.getD 4 undef = .pointer (some ⟨g, 0, none⟩)) (h5 : a.tmps.getD 5 undef = .bool b) (hd : a.defers = []) (h : Q (.returned (.tuple #[aV y, .bool b])) W) : bodyPost Try.prog Try.f20 Q Exit.ret a W := by
  have c0 : W.cell? ⟨g, 0, none⟩ = some (.int .i64 y.do_) := hB.cell 0
  have c1 : W.cell? ⟨g, 1, none⟩ = some (.int .i64 y.tag) := hB.cell 1
  have c2 : W.cell? ⟨g, 2, none⟩ = some (.int .i64 y.s) := hB.cell 2
  have c3 : W.cell? ⟨g, 3, none⟩ = some (.int .i64 y.o) := hB.cell 3
  have c4 : W.cell? ⟨g, 4, none⟩ = some (.int .i64 y.a) := hB.cell 4
  have c5 : W.cell? ⟨g, 5, none⟩ = some (.bool y.al) := hB.cell 5
  obtain ⟨tm, df⟩ := a
  simp only at h4 h5 hd
  subst hd
  refine bodyPost_ret (v := .tuple #[aV y, .bool b]) ?_ rfl h
  rw [Array.getD_eq_getD_getElem?] at h4 h5
  simp [results, Try.results20, go_sem, h4, h5, c0, c1, c2, c3, c4, c5, aV]
theorem six {W : World} {g : Nat} {a0 a1 a2 a3 a4 a5 : Value} (hB : Blk W g 45 #[a0, a1, a2, a3, a4, a5]) (y : Ac) :
    Blk ((((((W.setCell ⟨g, 0, none⟩ (.int .i64 y.do_)).setCell ⟨g, 1, none⟩ (.int .i64 y.tag)).setCell ⟨g, 2, none⟩ (.int .i64 y.s)).setCell ⟨g, 3, none⟩ (.int .i64 y.o)).setCell ⟨g, 4, none⟩ (.int .i64 y.a)).setCell ⟨g, 5, none⟩ (.bool y.al)) g 45 #[.int .i64 y.do_, .int .i64 y.tag, .int .i64 y.s, .int .i64 y.o, .int .i64 y.a, .bool y.al] := by
  have h0 : Blk _ g 45 #[.int .i64 y.do_, a1, a2, a3, a4, a5] := hB.set 0 (.int .i64 y.do_)
  have h1 : Blk _ g 45 #[.int .i64 y.do_, .int .i64 y.tag, a2, a3, a4, a5] := h0.set 1 (.int .i64 y.tag)
  have h2 : Blk _ g 45 #[.int .i64 y.do_, .int .i64 y.tag, .int .i64 y.s, a3, a4, a5] := h1.set 2 (.int .i64 y.s)
  have h3 : Blk _ g 45 #[.int .i64 y.do_, .int .i64 y.tag, .int .i64 y.s, .int .i64 y.o, a4, a5] := h2.set 3 (.int .i64 y.o)
  have h4 : Blk _ g 45 #[.int .i64 y.do_, .int .i64 y.tag, .int .i64 y.s, .int .i64 y.o, .int .i64 y.a, a5] := h3.set 4 (.int .i64 y.a)
  exact h4.set 5 (.bool y.al)
set_option maxHeartbeats 4000000 in
theorem last_any (A : Option Addr) (n c : Nat) (xs : List Ac) (x : Ac) (w : World) (h : RdA w A n xs) (hn : n ≤ 9223372036854775807) :
    Calls Try.prog 20 #[.slice A n c, aV x] w (LastEnds xs x.s x.o x.a w) := by
  have R := Mm.hid h
  clear h
  obtain ⟨xd, xt, xs', xo, xa, xl⟩ := x
  have X1 := Mm.hid ((Blk.new w #[.int .i64 xd, .int .i64 xt, .int .i64 xs', .int .i64 xo, .int .i64 xa, .bool xl] 45).keep (Below.heap_alloc (w.alloc (.cells #[.int .i64 xd, .int .i64 xt, .int .i64 xs', .int .i64 xo, .int .i64 xa, .bool xl] 45)) (.cells #[.int .i64 0, .int .i64 0, .int .i64 0, .int .i64 0, .int .i64 0, .bool false] 45) _ (by simp)))
  have Z1 : Hid (Blk ((w.alloc (.cells #[.int .i64 xd, .int .i64 xt, .int .i64 xs', .int .i64 xo, .int .i64 xa, .bool xl] 45)).alloc (.cells #[.int .i64 0, .int .i64 0, .int .i64 0, .int .i64 0, .int .i64 0, .bool false] 45)) (w.heap.size + 1) 45 #[.int .i64 0, .int .i64 0, .int .i64 0, .int .i64 0, .int .i64 0, .bool false]) := by
    have := Blk.new (w.alloc (.cells #[.int .i64 xd, .int .i64 xt, .int .i64 xs', .int .i64 xo, .int .i64 xa, .bool xl] 45)) #[.int .i64 0, .int .i64 0, .int .i64 0, .int .i64 0, .int .i64 0, .bool false] 45
    rwa [show (w.alloc (.cells #[.int .i64 xd, .int .i64 xt, .int .i64 xs', .int .i64 xo, .int .i64 xa, .bool xl] 45)).heap.size = w.heap.size + 1 by simp] at this
  have B1 := Mm.hid (((Below.refl w.heap.size w).alloc (Nat.le_refl _) (.cells #[.int .i64 xd, .int .i64 xt, .int .i64 xs', .int .i64 xo, .int .i64 xa, .bool xl] 45)).alloc (by simp) (.cells #[.int .i64 0, .int .i64 0, .int .i64 0, .int .i64 0, .int .i64 0, .bool false] 45))
  unfold aV
  go_enter Try.func20, Try.ntmps20
  go_wp2_with fail
  go_loopw [6, 7] (fun i _ wr => ∃ k : Nat, k ≤ n ∧ i = .int .i64 ((k : Int) - 1) ∧ Hid (lastPut (xs.take k) xs' xo xa = lastPut xs xs' xo xa) ∧ Hid (Below (w.heap.size + 2) ((w.alloc (.cells #[.int .i64 xd, .int .i64 xt, .int .i64 xs', .int .i64 xo, .int .i64 xa, .bool xl] 45)).alloc (.cells #[.int .i64 0, .int .i64 0, .int .i64 0, .int .i64 0, .int .i64 0, .bool false] 45)) wr)) (fun i _ _ => (intOf i + 1).toNat)
  case atStart => exact ⟨n, Nat.le_refl _, rfl, by rw [← R.out.1, List.take_length]; exact rfl, ⟨rfl, rfl, rfl, by simp, fun _ _ => rfl⟩⟩
  case round =>
    obtain ⟨k, hk, rfl, HL, HB⟩ := hrel
    have hsz : w.heap.size + 2 ≤ wr.heap.size := by have := HB.out.size; simpa using this
    have BW := Mm.hid (B1.out.trans (HB.out.mono (by omega)))
    by_cases hlt : 0 < k
    · obtain ⟨k, rfl⟩ : ∃ j, k = j + 1 := ⟨k - 1, by omega⟩
      have ek : (((k + 1 : Nat) : Int) - 1) = (k : Int) := by omega
      rw [ek]
      obtain ⟨ad, rfl, hl, hc⟩ := (R.out.below BW.out).2 (by omega)
      obtain ⟨y, hy⟩ : ∃ y, xs[k]? = some y := ⟨_, List.getElem?_eq_getElem (by have := R.out.1; omega)⟩
      have e := hc k y hy
      have TL := Mm.hid (take_last hy xs' xo xa)
      obtain ⟨pd, pt, ps, po, pa, pl⟩ := y
      obtain ⟨e0, e1, e2, e3, e4, e5⟩ := e
      simp only at e0 e1 e2 e3 e4 e5
      clear hc hl hy
      have BA := Mm.hid (BW.out.alloc (by omega) (.cells #[.int .i64 pd, .int .i64 pt, .int .i64 ps, .int .i64 po, .int .i64 pa, .bool pl] 45))
      have XA := Mm.hid ((X1.out.keep (HB.out.block _ (by omega))).keep (Below.heap_alloc wr (.cells #[.int .i64 pd, .int .i64 pt, .int .i64 ps, .int .i64 po, .int .i64 pa, .bool pl] 45) _ (by omega)))
      have ZA := Mm.hid ((Z1.out.keep (HB.out.block _ (by omega))).keep (Below.heap_alloc wr (.cells #[.int .i64 pd, .int .i64 pt, .int .i64 ps, .int .i64 po, .int .i64 pa, .bool pl] 45) _ (by omega)))
      have key : (pd == 2) = false ∨ ((pd == 2) = true ∧ (ps == xs') = false) ∨ ((pd == 2) = true ∧ (ps == xs') = true ∧ (po == xo) = false) ∨ ((pd == 2) = true ∧ (ps == xs') = true ∧ (po == xo) = true ∧ (pa == xa) = false) ∨ ((pd == 2) = true ∧ (ps == xs') = true ∧ (po == xo) = true ∧ (pa == xa) = true) := by
        cases (pd == 2) <;> cases (ps == xs') <;> cases (po == xo) <;> cases (pa == xa) <;> simp
      have x2 : (wr.alloc (.cells #[.int .i64 pd, .int .i64 pt, .int .i64 ps, .int .i64 po, .int .i64 pa, .bool pl] 45)).cell? ⟨w.heap.size, 2, none⟩ = some (.int .i64 xs') := XA.out.cell 2
      have x3 : (wr.alloc (.cells #[.int .i64 pd, .int .i64 pt, .int .i64 ps, .int .i64 po, .int .i64 pa, .bool pl] 45)).cell? ⟨w.heap.size, 3, none⟩ = some (.int .i64 xo) := XA.out.cell 3
      have x4 : (wr.alloc (.cells #[.int .i64 pd, .int .i64 pt, .int .i64 ps, .int .i64 po, .int .i64 pa, .bool pl] 45)).cell? ⟨w.heap.size, 4, none⟩ = some (.int .i64 xa) := XA.out.cell 4
      rcases key with h1 | ⟨h1, h2⟩ | ⟨h1, h2, h3⟩ | ⟨h1, h2, h3, h4⟩ | ⟨h1, h2, h3, h4⟩
      · have hp : Hid (isPut ⟨pd, pt, ps, po, pa, pl⟩ xs' xo xa = false) := by show (pd == 2 && (ps == xs' && (po == xo && pa == xa))) = false; simp only [h1]; simp
        go_wp2
        go_roundw
        case rel => exact ⟨k, by omega, by go_num, by rw [← HL.out, TL.out, hp.out]; exact rfl, HB.out.alloc hsz _⟩
        case measure => simp [intOf] <;> omega
      · have hp : Hid (isPut ⟨pd, pt, ps, po, pa, pl⟩ xs' xo xa = false) := by show (pd == 2 && (ps == xs' && (po == xo && pa == xa))) = false; simp only [h2]; simp
        go_wp2
        go_roundw
        case rel => exact ⟨k, by omega, by go_num, by rw [← HL.out, TL.out, hp.out]; exact rfl, HB.out.alloc hsz _⟩
        case measure => simp [intOf] <;> omega
      · have hp : Hid (isPut ⟨pd, pt, ps, po, pa, pl⟩ xs' xo xa = false) := by show (pd == 2 && (ps == xs' && (po == xo && pa == xa))) = false; simp only [h3]; simp
        go_wp2
        go_roundw
        case rel => exact ⟨k, by omega, by go_num, by rw [← HL.out, TL.out, hp.out]; exact rfl, HB.out.alloc hsz _⟩
        case measure => simp [intOf] <;> omega
      · have hp : Hid (isPut ⟨pd, pt, ps, po, pa, pl⟩ xs' xo xa = false) := by show (pd == 2 && (ps == xs' && (po == xo && pa == xa))) = false; simp only [h4]; simp
        go_wp2
        go_roundw
        case rel => exact ⟨k, by omega, by go_num, by rw [← HL.out, TL.out, hp.out]; exact rfl, HB.out.alloc hsz _⟩
        case measure => simp [intOf] <;> omega
      · have hp : Hid (lastPut xs xs' xo xa = some ⟨pd, pt, ps, po, pa, pl⟩) := by
          have : isPut ⟨pd, pt, ps, po, pa, pl⟩ xs' xo xa = true := by show (pd == 2 && (ps == xs' && (po == xo && pa == xa))) = true; rw [h1, h2, h3, h4]; rfl
          rw [← HL.out, TL.out, this]; exact rfl
        have z0 : (wr.alloc (.cells #[.int .i64 pd, .int .i64 pt, .int .i64 ps, .int .i64 po, .int .i64 pa, .bool pl] 45)).cell? ⟨w.heap.size + 1, 0, none⟩ = some (.int .i64 0) := ZA.out.cell 0
        have y0 : (wr.alloc (.cells #[.int .i64 pd, .int .i64 pt, .int .i64 ps, .int .i64 po, .int .i64 pa, .bool pl] 45)).frozen? ⟨w.heap.size + 1, 0, none⟩ = false := ZA.out.free 0
        have z1 : (wr.alloc (.cells #[.int .i64 pd, .int .i64 pt, .int .i64 ps, .int .i64 po, .int .i64 pa, .bool pl] 45)).cell? ⟨w.heap.size + 1, 1, none⟩ = some (.int .i64 0) := ZA.out.cell 1
        have y1 : (wr.alloc (.cells #[.int .i64 pd, .int .i64 pt, .int .i64 ps, .int .i64 po, .int .i64 pa, .bool pl] 45)).frozen? ⟨w.heap.size + 1, 1, none⟩ = false := ZA.out.free 1
        have z2 : (wr.alloc (.cells #[.int .i64 pd, .int .i64 pt, .int .i64 ps, .int .i64 po, .int .i64 pa, .bool pl] 45)).cell? ⟨w.heap.size + 1, 2, none⟩ = some (.int .i64 0) := ZA.out.cell 2
        have y2 : (wr.alloc (.cells #[.int .i64 pd, .int .i64 pt, .int .i64 ps, .int .i64 po, .int .i64 pa, .bool pl] 45)).frozen? ⟨w.heap.size + 1, 2, none⟩ = false := ZA.out.free 2
        have z3 : (wr.alloc (.cells #[.int .i64 pd, .int .i64 pt, .int .i64 ps, .int .i64 po, .int .i64 pa, .bool pl] 45)).cell? ⟨w.heap.size + 1, 3, none⟩ = some (.int .i64 0) := ZA.out.cell 3
        have y3 : (wr.alloc (.cells #[.int .i64 pd, .int .i64 pt, .int .i64 ps, .int .i64 po, .int .i64 pa, .bool pl] 45)).frozen? ⟨w.heap.size + 1, 3, none⟩ = false := ZA.out.free 3
        have z4 : (wr.alloc (.cells #[.int .i64 pd, .int .i64 pt, .int .i64 ps, .int .i64 po, .int .i64 pa, .bool pl] 45)).cell? ⟨w.heap.size + 1, 4, none⟩ = some (.int .i64 0) := ZA.out.cell 4
        have y4 : (wr.alloc (.cells #[.int .i64 pd, .int .i64 pt, .int .i64 ps, .int .i64 po, .int .i64 pa, .bool pl] 45)).frozen? ⟨w.heap.size + 1, 4, none⟩ = false := ZA.out.free 4
        have z5 : (wr.alloc (.cells #[.int .i64 pd, .int .i64 pt, .int .i64 ps, .int .i64 po, .int .i64 pa, .bool pl] 45)).cell? ⟨w.heap.size + 1, 5, none⟩ = some (.bool false) := ZA.out.cell 5
        have y5 : (wr.alloc (.cells #[.int .i64 pd, .int .i64 pt, .int .i64 ps, .int .i64 po, .int .i64 pa, .bool pl] 45)).frozen? ⟨w.heap.size + 1, 5, none⟩ = false := ZA.out.free 5
        go_wp2
        refine ret_act _ _ (w.heap.size + 1) ⟨pd, pt, ps, po, pa, pl⟩ true _ (six ZA.out ⟨pd, pt, ps, po, pa, pl⟩) rfl rfl rfl ⟨by rw [hp.out]; rfl, BA.out.trans ?_⟩
        refine Fr.below (S := fun k => k = w.heap.size + 1) ?_ (fun g hg => by omega) (Nat.le_trans (by omega) BA.out.size)
        iterate 6 refine Fr.set ?_ _ rfl
        exact Fr.refl _ _
    · have hk0 : k = 0 := by omega
      subst hk0
      have hp : Hid (lastPut xs xs' xo xa = none) := by rw [← HL.out]; exact rfl
      have z0 : wr.cell? ⟨w.heap.size + 1, 0, none⟩ = some (.int .i64 0) := (Z1.out.keep (HB.out.block _ (by omega))).cell 0
      have y0 : wr.frozen? ⟨w.heap.size + 1, 0, none⟩ = false := (Z1.out.keep (HB.out.block _ (by omega))).free 0
      have z1 : wr.cell? ⟨w.heap.size + 1, 1, none⟩ = some (.int .i64 0) := (Z1.out.keep (HB.out.block _ (by omega))).cell 1
      have y1 : wr.frozen? ⟨w.heap.size + 1, 1, none⟩ = false := (Z1.out.keep (HB.out.block _ (by omega))).free 1
      have z2 : wr.cell? ⟨w.heap.size + 1, 2, none⟩ = some (.int .i64 0) := (Z1.out.keep (HB.out.block _ (by omega))).cell 2
      have y2 : wr.frozen? ⟨w.heap.size + 1, 2, none⟩ = false := (Z1.out.keep (HB.out.block _ (by omega))).free 2
      have z3 : wr.cell? ⟨w.heap.size + 1, 3, none⟩ = some (.int .i64 0) := (Z1.out.keep (HB.out.block _ (by omega))).cell 3
      have y3 : wr.frozen? ⟨w.heap.size + 1, 3, none⟩ = false := (Z1.out.keep (HB.out.block _ (by omega))).free 3
      have z4 : wr.cell? ⟨w.heap.size + 1, 4, none⟩ = some (.int .i64 0) := (Z1.out.keep (HB.out.block _ (by omega))).cell 4
      have y4 : wr.frozen? ⟨w.heap.size + 1, 4, none⟩ = false := (Z1.out.keep (HB.out.block _ (by omega))).free 4
      have z5 : wr.cell? ⟨w.heap.size + 1, 5, none⟩ = some (.bool false) := (Z1.out.keep (HB.out.block _ (by omega))).cell 5
      have y5 : wr.frozen? ⟨w.heap.size + 1, 5, none⟩ = false := (Z1.out.keep (HB.out.block _ (by omega))).free 5
      go_wp2
      refine ret_act _ _ (w.heap.size + 1) Ac.zero false _ (six (Z1.out.keep (HB.out.block _ (by omega))) Ac.zero) rfl rfl rfl ⟨by rw [hp.out]; rfl, BW.out.trans ?_⟩
      refine Fr.below (S := fun k => k = w.heap.size + 1) ?_ (fun g hg => by omega) (by omega)
      iterate 6 refine Fr.set ?_ _ rfl
      exact Fr.refl _ _
end Go.Proofs.Ythojgfnaanckeaa

/- Walk: the law CellsOne. -/
import Derived.Test.YtkbobgblohohcaaRun
import Derived.Deep.CutRange
import Derived.Deep.CutBlock
namespace Go.Proofs.Ytkbobgblohohcaa
open Go.RowKit Go.Mm Go.Cells
theorem add_field (a : Addr) (i j : Nat) (h : 0 < j) : a.add (i + j) = ⟨(a.add i).block, (a.add i).off + j, none⟩ := by
  unfold Addr.add
  rw [if_neg (by omega)]
  by_cases hi : i = 0 <;> simp [hi, Nat.add_assoc]
theorem fX_len (s : Stp) : (fX s).length = 9 := rfl
/-- a step that is read -/
structure StpAt (w : World) (ad : Addr) (i : Nat) (s : Stp) : Prop where
  c0 : w.cell? (ad.add (i * 9)) = some (.int .i64 s.d)
  c1 : w.cell? ⟨(ad.add (i * 9)).block, (ad.add (i * 9)).off + 1, none⟩ = some (.int .i64 s.a)
  c2 : w.cell? ⟨(ad.add (i * 9)).block, (ad.add (i * 9)).off + 2, none⟩ = some (.int .i64 s.b)
  c3 : w.cell? ⟨(ad.add (i * 9)).block, (ad.add (i * 9)).off + 3, none⟩ = some (.int .i64 s.c)
  c4 : w.cell? ⟨(ad.add (i * 9)).block, (ad.add (i * 9)).off + 4, none⟩ = some (.int .i8 s.x.k)
  c5 : w.cell? ⟨(ad.add (i * 9)).block, (ad.add (i * 9)).off + 5, none⟩ = some (.int .i64 s.x.a)
  c6 : w.cell? ⟨(ad.add (i * 9)).block, (ad.add (i * 9)).off + 6, none⟩ = some (.int .i64 s.x.v)
  c7 : w.cell? ⟨(ad.add (i * 9)).block, (ad.add (i * 9)).off + 7, none⟩ = some (.int .i64 s.x.o)
  c8 : w.cell? ⟨(ad.add (i * 9)).block, (ad.add (i * 9)).off + 8, none⟩ = some (.bool s.x.good)
theorem rd_stp {w : World} {A : Option Addr} {n i : Nat} {xs : List Stp} {s : Stp} (h : Rd w A n 9 (xs.flatMap fX)) (hl : xs.length = n) (hs : xs[i]? = some s) : ∃ ad, A = some ad ∧ ad.block < w.heap.size ∧ StpAt w ad i s := by
  have hi := (List.getElem?_eq_some_iff.1 hs).1
  obtain ⟨ad, rfl, hb, hc⟩ := h.2 (by omega)
  have key : ∀ j u, j < 9 → (fX s)[j]? = some u → w.cell? (ad.add (i * 9 + j)) = some u := fun j u hj hu => hc _ _ (by rw [flatMap_at fX_len hs hj]; exact hu)
  have kf : ∀ j u, 0 < j → j < 9 → (fX s)[j]? = some u → w.cell? ⟨(ad.add (i * 9)).block, (ad.add (i * 9)).off + j, none⟩ = some u := by
    intro j u h0 hj hu
    rw [← add_field _ _ j h0]; exact key j u hj hu
  exact ⟨ad, rfl, hb, key 0 _ (by decide) rfl, kf 1 _ (by decide) (by decide) rfl, kf 2 _ (by decide) (by decide) rfl, kf 3 _ (by decide) (by decide) rfl, kf 4 _ (by decide) (by decide) rfl, kf 5 _ (by decide) (by decide) rfl, kf 6 _ (by decide) (by decide) rfl, kf 7 _ (by decide) (by decide) rfl, kf 8 _ (by decide) (by decide) rfl⟩
/-- an access that is read -/
structure AccAt (w : World) (ad : Addr) (i : Nat) (x : Acc) : Prop where
  c0 : w.cell? (ad.add (i * 5)) = some (.int .i8 x.k)
  c1 : w.cell? ⟨(ad.add (i * 5)).block, (ad.add (i * 5)).off + 1, none⟩ = some (.int .i64 x.a)
  c2 : w.cell? ⟨(ad.add (i * 5)).block, (ad.add (i * 5)).off + 2, none⟩ = some (.int .i64 x.v)
  c3 : w.cell? ⟨(ad.add (i * 5)).block, (ad.add (i * 5)).off + 3, none⟩ = some (.int .i64 x.o)
  c4 : w.cell? ⟨(ad.add (i * 5)).block, (ad.add (i * 5)).off + 4, none⟩ = some (.bool x.good)
theorem rd_acc {w : World} {A : Option Addr} {n i : Nat} {xs : List Acc} {x : Acc} (h : Rd w A n 5 (xs.flatMap fAcc)) (hl : xs.length = n) (hs : xs[i]? = some x) : ∃ ad, A = some ad ∧ ad.block < w.heap.size ∧ AccAt w ad i x := by
  have hi := (List.getElem?_eq_some_iff.1 hs).1
  obtain ⟨ad, rfl, hb, hc⟩ := h.2 (by omega)
  have key : ∀ j u, j < 5 → (fAcc x)[j]? = some u → w.cell? (ad.add (i * 5 + j)) = some u := fun j u hj hu => hc _ _ (by rw [flatMap_at fAcc_len hs hj]; exact hu)
  have kf : ∀ j u, 0 < j → j < 5 → (fAcc x)[j]? = some u → w.cell? ⟨(ad.add (i * 5)).block, (ad.add (i * 5)).off + j, none⟩ = some u := by
    intro j u h0 hj hu
    rw [← add_field _ _ j h0]; exact key j u hj hu
  exact ⟨ad, rfl, hb, key 0 _ (by decide) rfl, kf 1 _ (by decide) (by decide) rfl, kf 2 _ (by decide) (by decide) rfl, kf 3 _ (by decide) (by decide) rfl, kf 4 _ (by decide) (by decide) rfl⟩
/-- a memory of n words, of so many notes and refusals at most -/
def Mid (n T B : Nat) (S : Cm) : Prop := S.ws.length = n ∧ S.tr.length ≤ T ∧ S.bad ≤ B
theorem Mid.run {n T B : Nat} {S : Cm} (h : Mid n T B S) (s : Stp) : Mid n (T + 1) (B + 1) (runC S s) := by
  have := run_le S s
  obtain ⟨h1, h2, h3⟩ := h
  exact ⟨by omega, by omega, by omega⟩
/-- a memory, of which the blocks G are none -/
structure HasG (base g : Nat) (w0 : World) (G : Nat → Prop) (S : Cm) (w : World) : Prop where mk ::
  out : ∃ F : Nat → Prop, MemB base F w g S ∧ Below base w0 w ∧ ∀ k, G k → k < w.heap.size ∧ ¬ F k
def HEG (base g : Nat) (w0 w : World) (G : Nat → Prop) (S' : Cm) (r : Value) (e : Ending) (w' : World) : Prop := e = .returned r ∧ HasG base g w0 G S' w' ∧ ∀ k, G k → w'.heap[k]? = w.heap[k]?
section
variable {base g : Nat} {w0 w w' : World} {G : Nat → Prop} {K : World → Prop} {S S' : Cm}
theorem HasG.op (h : HasG base g w0 G S w) {f : FuncId} {args : Array Value} {r : Value} (hc : ∀ F, MemB base F w g S → base ≤ w.heap.size → Calls Try.prog f args w (OpEnds base F g S' r w)) : Calls Try.prog f args w (HEG base g w0 w G S' r) := by
  obtain ⟨F, h1, h2, h3⟩ := h.out
  have hle : base ≤ w.heap.size := by have := h1.lt g h1.fg; omega
  refine (hc F h1 hle).mono ?_
  rintro e w1 ⟨rfl, ht⟩
  obtain ⟨F', m, hs, hf⟩ := ht.out
  refine ⟨rfl, ⟨F', m, h2.trans (hf.below (fun k hk => (h1.lt k hk).1) hle), fun k hk => ⟨Nat.lt_of_lt_of_le (h3 k hk).1 hf.size, fun hF => ?_⟩⟩, fun k hk => hf.block k (h3 k hk).1 (h3 k hk).2⟩
  rcases hs k hF with h | h
  · exact (h3 k hk).2 h
  · have := (h3 k hk).1; omega
theorem HasG.write (h : HasG base g w0 G S w) {T : Nat → Prop} (hf : Fr T w w') (hT : ∀ k, T k → G k ∧ base ≤ k) : HasG base g w0 G S w' := by
  obtain ⟨F, h1, h2, h3⟩ := h.out
  have hle : base ≤ w.heap.size := by have := h1.lt g h1.fg; omega
  exact ⟨F, h1.fr hf fun k hk ht => (h3 k (hT k ht).1).2 hk, h2.trans (hf.below (fun k hk => (hT k hk).2) hle), fun k hk => ⟨Nat.lt_of_lt_of_le (h3 k hk).1 hf.size, (h3 k hk).2⟩⟩
theorem HasG.has (h : HasG base g w0 G S w) (hK : ∀ w1 : World, w.heap.size ≤ w1.heap.size → (∀ k, G k → w1.heap[k]? = w.heap[k]?) → K w1) : Has base g w0 K S w := by
  obtain ⟨F, h1, h2, h3⟩ := h.out
  exact ⟨F, G, h1, h2, h3, hK⟩
theorem Has.free (h : Has base g w0 K S w) {T : Nat → Prop} (hf : Fr T w w') (hT : ∀ k, T k → k < base) (o : Obj) {b : Nat} (hb : b < base) (hs : w'.heap.size = w.heap.size) : HasG base g (w'.alloc o) (fun k => k = b ∨ k = w.heap.size) S (w'.alloc o) := by
  obtain ⟨F, _, h1, _, _, _⟩ := h.out
  have hle := h.le
  refine ⟨F, (h1.fr hf fun k hk ht => by have := (h1.lt k hk).1; have := hT k ht; omega).below ((Below.refl _ _).alloc (Nat.le_refl _) o), Below.refl _ _, fun k hk => ?_⟩
  rcases hk with rfl | rfl
  · exact ⟨by simp [hs]; omega, fun hF => by have := (h1.lt k hF).1; omega⟩
  · exact ⟨by simp [hs], fun hF => by have := (h1.lt _ hF).2; omega⟩
end
theorem five {W : World} {b : Nat} {p0 p1 p2 p3 p4 : Value} (h : Blk W b 47 #[p0, p1, p2, p3, p4]) (q0 q1 q2 q3 q4 : Value) :
    Blk (((((W.setCell ⟨b, 0, none⟩ q0).setCell ⟨b, 1, none⟩ q1).setCell ⟨b, 2, none⟩ q2).setCell ⟨b, 3, none⟩ q3).setCell ⟨b, 4, none⟩ q4) b 47 #[q0, q1, q2, q3, q4] := by
  have h0 : Blk _ b 47 #[q0, p1, p2, p3, p4] := h.set 0 q0
  have h1 : Blk _ b 47 #[q0, q1, p2, p3, p4] := h0.set 1 q1
  have h2 : Blk _ b 47 #[q0, q1, q2, p3, p4] := h1.set 2 q2
  have h3 : Blk _ b 47 #[q0, q1, q2, q3, p4] := h2.set 3 q3
  exact h3.set 4 q4
theorem fr5 (W : World) (b : Nat) (q0 q1 q2 q3 q4 : Value) : Fr (fun k => k = b) W (((((W.setCell ⟨b, 0, none⟩ q0).setCell ⟨b, 1, none⟩ q1).setCell ⟨b, 2, none⟩ q2).setCell ⟨b, 3, none⟩ q3).setCell ⟨b, 4, none⟩ q4) :=
  ((((Fr.setCell W ⟨b, 0, none⟩ q0).trans (Fr.setCell _ ⟨b, 1, none⟩ q1) fun _ _ h => h).trans (Fr.setCell _ ⟨b, 2, none⟩ q2) fun _ _ h => h).trans (Fr.setCell _ ⟨b, 3, none⟩ q3) fun _ _ h => h).trans (Fr.setCell _ ⟨b, 4, none⟩ q4) fun _ _ h => h
/-- what the switch leaves: the note that was made, and what is asked of it -/
structure Left (base g : Nat) (w0 : World) (G : Nat → Prop) (xb T B : Nat) (l : List Acc) (r : Bool) (k a v o : Int) (good : Bool) (wc : World) : Prop where mk ::
  out : ∃ (S' : Cm) (z : Acc), HasG base g w0 G S' wc ∧ Blk wc xb 47 #[.int .i8 k, .int .i64 a, .int .i64 v, .int .i64 o, .bool good] ∧ S'.tr = l ++ [z] ∧ S'.bad = (if r then B + 1 else B) ∧ z.k = k ∧ z.a = a ∧ z.v = v ∧ (k ≠ 2 → z.o = o) ∧ z.good = good
theorem looked_if {S : Cm} {a e : Int} (h : (S.look a).2 = e) : S.looked a = if (e != 0) then S.bad + 1 else S.bad := by
  unfold Cm.looked
  rw [h]
  by_cases he : e = 0 <;> simp [he]
set_option maxRecDepth 100000 in
set_option maxHeartbeats 1000000 in
theorem law_one (x : Int) (A : Option Addr) (N c : Nat) (xs : List Stp) (s : Stp) (w : World) (_ : (Lit.int .i64 x).wf = true) (h : Sl w 9 72 fX gX A N c xs) (_ : gX s) :
    Calls Try.prog 8 #[.int .i64 x, .slice A N c, .agg (fX s).toArray] w fun e w' => e = .returned (.bool true) ∧ Below w.heap.size w w' := by
  obtain ⟨sd, sa, sb, sc, ⟨xk, xa, xv, xo, xg⟩⟩ := s
  show Calls Try.prog 8 #[.int .i64 x, .slice A N c, .agg #[.int .i64 sd, .int .i64 sa, .int .i64 sb, .int .i64 sc, .int .i8 xk, .int .i64 xa, .int .i64 xv, .int .i64 xo, .bool xg]] w _
  have BX := Mm.hid (Blk.new w #[.int .i64 sd, .int .i64 sa, .int .i64 sb, .int .i64 sc, .int .i8 xk, .int .i64 xa, .int .i64 xv, .int .i64 xo, .bool xg] 49)
  have B0 := Mm.hid ((Below.refl w.heap.size w).alloc (Nat.le_refl _) (.cells #[.int .i64 sd, .int .i64 sa, .int .i64 sb, .int .i64 sc, .int .i8 xk, .int .i64 xa, .int .i64 xv, .int .i64 xo, .bool xg] 49))
  have R := Mm.hid h.rd
  have LN := Mm.hid h.len
  have GD := Mm.hid h.good
  have hcap : N ≤ c := h.cap
  have hroom : N ≤ 1954687338220 := by have := h.room; omega
  clear h
  go_enter Try.func8, Try.ntmps8
  go_wp2_with fail
  refine (made_any x _).mono ?_
  rintro e w2 ⟨g, n, F, hn1, hn2, rfl, M⟩
  have hbx := BX.out.lt
  generalize (w.alloc (.cells #[.int .i64 sd, .int .i64 sa, .int .i64 sb, .int .i64 sc, .int .i8 xk, .int .i64 xa, .int .i64 xv, .int .i64 xo, .bool xg] 49)) = w1 at *
  have H1 : Hid (∃ S, Has w1.heap.size g w1 (fun w' => True ∧ Blk w' w.heap.size 49 #[.int .i64 sd, .int .i64 sa, .int .i64 sb, .int .i64 sc, .int .i8 xk, .int .i64 xa, .int .i64 xv, .int .i64 xo, .bool xg]) S w2 ∧ Mid n (3 + 0) 0 S) := ⟨_, (Has.made M).blk (BX.out.keep (M.out.2.2.block _ hbx)) hbx, by simp [Cm.made], Nat.le_refl _, Nat.le_refl _⟩
  clear M F BX
  go_wp2_with fail
  go_loopw [9] (fun i wr => ∃ k : Nat, k ≤ N ∧ i = .int .i64 (k : Nat) ∧ Hid (∃ S, Has w1.heap.size g w1 (fun w' => True ∧ Blk w' w.heap.size 49 #[.int .i64 sd, .int .i64 sa, .int .i64 sb, .int .i64 sc, .int .i8 xk, .int .i64 xa, .int .i64 xv, .int .i64 xo, .bool xg]) S wr ∧ Mid n (3 + k) k S)) (fun i _ => N - (intOf i).toNat)
  case atStart => exact ⟨0, Nat.zero_le _, rfl, H1.out⟩
  case round =>
    obtain ⟨k, hk, rfl, HK⟩ := hrel
    clear H1
    obtain ⟨S, h1, h2⟩ := HK.out
    have H := Mm.hid h1
    have MD := Mm.hid h2
    have BW := Mm.hid (B0.out.trans (h1.below.mono (Nat.le_of_lt hbx)))
    clear h1 h2 HK
    by_cases hlt : k < N
    · obtain ⟨q, hq⟩ : ∃ q, xs[k]? = some q := ⟨_, List.getElem?_eq_getElem (by rw [LN.out]; exact hlt)⟩
      obtain ⟨ad, rfl, _, f0, f1, f2, f3, f4, f5, f6, f7, f8⟩ := rd_stp (R.out.below BW.out) LN.out hq
      have GQ := Mm.hid (GD.out q (List.mem_of_getElem? hq))
      clear hq
      go_wp2_with fail
      refine (run_any H.out q GQ.out (by have := MD.out.2.2; omega) (by have := MD.out.2.1; omega)).mono ?_
      rintro e w3 ⟨rfl, h3⟩
      have H3 : Hid (∃ S, Has w1.heap.size g w1 (fun w' => True ∧ Blk w' w.heap.size 49 #[.int .i64 sd, .int .i64 sa, .int .i64 sb, .int .i64 sc, .int .i8 xk, .int .i64 xa, .int .i64 xv, .int .i64 xo, .bool xg]) S w3 ∧ Mid n (3 + (k + 1)) (k + 1) S) := ⟨_, h3, MD.out.run q⟩
      clear h3 f0 f1 f2 f3 f4 f5 f6 f7 f8
      go_wp2
      go_roundw
      case rel => exact ⟨k + 1, by omega, by go_num, H3.out⟩
      case measure => simp [intOf] <;> omega
    · obtain ⟨T, hT⟩ : ∃ T, S.tr.length = T := ⟨_, rfl⟩
      obtain ⟨B, hB⟩ : ∃ B, S.bad = B := ⟨_, rfl⟩
      have TT := Mm.hid hT
      have TB := Mm.hid hB
      have hT1 : T ≤ 3 + k := by rw [← hT]; exact MD.out.2.1
      have hB1 : B ≤ k := by rw [← hB]; exact MD.out.2.2
      clear hT hB
      go_wp2_with fail
      refine (H.out.trace TT.out (by omega)).mono ?_
      rintro e w3 ⟨A0, c0, rfl, hc0, H3⟩
      go_wp2_with fail
      refine (H3.out.bad TB.out).mono ?_
      rintro e w3' ⟨rfl, rfl⟩
      have H4 := Mm.hid (H3.out.weak (K' := fun w' => True ∧ Blk w' w.heap.size 49 #[.int .i64 sd, .int .i64 sa, .int .i64 sb, .int .i64 sc, .int .i8 xk, .int .i64 xa, .int .i64 xv, .int .i64 xo, .bool xg]) fun _ h => h.1)
      have BW3 := Mm.hid (B0.out.trans (H3.out.below.mono (Nat.le_of_lt hbx)))
      clear H H3 BW
      have c1 : w3.cell? ⟨w.heap.size, 1, none⟩ = some (.int .i64 sa) := H4.out.keeps.2.cell 1
      have c2 : w3.frozen? ⟨w.heap.size, 1, none⟩ = false := H4.out.keeps.2.free 1
      have hn3 : ((n : Int) + 2) = ((n + 2 : Nat) : Int) := by omega
      have HN3 := Mm.hid hn3
      clear hn3
      go_wp2_with fail
      rw [HN3.out]
      refine (pick_any sa (n + 2) _ (by omega) (by omega)).mono ?_
      rintro e w4 ⟨p, hp, rfl, rfl, _⟩
      have hp1 : ((p : Int) - 1) = (p : Int) - 1 := rfl
      have hS := Fr.setCell w3 ⟨w.heap.size, 1, none⟩ (.int .i64 ((p : Int) - 1))
      have X4 := H4.out.keeps.2.set 1 (.int .i64 ((p : Int) - 1))
      have hs4 : (w3.setCell ⟨w.heap.size, 1, none⟩ (.int .i64 ((p : Int) - 1))).heap.size = w3.heap.size := by simp [World.setCell]
      have X5 := Mm.hid (X4.keep (Below.heap_alloc _ (.cells #[.int .i8 0, .int .i64 0, .int .i64 0, .int .i64 0, .bool false] 47) _ X4.lt))
      have Y5 := Mm.hid (Blk.new (w3.setCell ⟨w.heap.size, 1, none⟩ (.int .i64 ((p : Int) - 1))) #[.int .i8 0, .int .i64 0, .int .i64 0, .int .i64 0, .bool false] 47)
      have H5 := Mm.hid (H4.out.free hS (fun k (e : k = w.heap.size) => e ▸ hbx) (.cells #[.int .i8 0, .int .i64 0, .int .i64 0, .int .i64 0, .bool false] 47) hbx hs4)
      have B5 := Mm.hid ((BW3.out.setCell (p := ⟨w.heap.size, 1, none⟩) (Nat.le_refl _) (.int .i64 ((p : Int) - 1))).alloc (by rw [hs4]; exact BW3.out.size) (.cells #[.int .i8 0, .int .i64 0, .int .i64 0, .int .i64 0, .bool false] 47))
      rw [hs4] at Y5
      have hx1 : w1.heap.size ≤ w3.heap.size := H4.out.le
      have d0 := X5.out.cell 0
      clear hS X4 hs4 hp1 H4 BW3
      go_wp2_with fail
      clear d0 c1 c2
      generalize (w3.setCell ⟨w.heap.size, 1, none⟩ (.int .i64 ((p : Int) - 1))).alloc (.cells #[.int .i8 0, .int .i64 0, .int .i64 0, .int .i64 0, .bool false] 47) = w5 at *
      refine (pick_any sd 4 _ (by omega) (by omega)).mono ?_
      rintro e w4 ⟨o, ho, rfl, rfl, _⟩
      generalize w3.heap.size = xb at *
      have G5 : Hid (xb ≠ w.heap.size ∧ w1.heap.size ≤ xb) := ⟨by omega, by omega⟩
      go_upto_block 2 with (fail)
      go_cut [13, 14, 15, 16, 17, 18, 19, 20] from 56 to 143 (fun s13 _ _ _ _ _ _ _ wc => ∃ (r : Bool) (k a v o : Int) (good : Bool), s13 = .bool r ∧ Hid (Left w1.heap.size g w5 (fun k => k = w.heap.size ∨ k = xb) xb T B S.tr r k a v o good wc))
      case first =>
        obtain ⟨a, ha⟩ : ∃ a, ((p : Int) - 1) = a := ⟨_, rfl⟩
        obtain ⟨⟨v, e⟩, hve⟩ : ∃ ve, S.look a = ve := ⟨_, rfl⟩
        have LK := Mm.hid hve
        have LE : Hid (S.looked a = if (e != 0) then B + 1 else B) := by show _ = _; rw [looked_if (by rw [hve]), TB.out]
        have h1 : w5.cell? ⟨w.heap.size, 1, none⟩ = some (.int .i64 a) := by rw [← ha]; exact X5.out.cell 1
        have AP := Mm.hid ha
        have h2 : w5.cell? ⟨w.heap.size, 2, none⟩ = some (.int .i64 sb) := X5.out.cell 2
        have h3 : w5.cell? ⟨w.heap.size, 3, none⟩ = some (.int .i64 sc) := X5.out.cell 3
        clear hve ha
        obtain rfl | rfl | rfl | rfl : o = 0 ∨ o = 1 ∨ o = 2 ∨ o = 3 := by omega
        · have SE : Hid ((S.load a).tr = S.tr ++ [⟨1, a, v, 0, e == 0⟩] ∧ (S.load a).bad = if (e != 0) then B + 1 else B) := ⟨by simp [Cm.load, LK.out], LE.out⟩
          go_wp2_with fail
          refine (H5.out.op fun F m1 m2 => load_any _ g F S a w5 m1 m2 (by rw [TB.out]; omega) (by rw [TT.out]; omega)).mono ?_
          rintro e' w6 ⟨rfl, h6, k6⟩
          rw [LK.out]
          have X6 := Mm.hid (X5.out.keep (k6 _ (.inl rfl)))
          have Y6 := Mm.hid (Y5.out.keep (k6 _ (.inr rfl)))
          have H6 := Mm.hid h6
          clear h6 k6 h1 h2 h3
          have h1 : w6.cell? ⟨w.heap.size, 1, none⟩ = some (.int .i64 a) := by have := X6.out.cell 1; rw [AP.out] at this; exact this
          have h2 : w6.cell? ⟨w.heap.size, 2, none⟩ = some (.int .i64 sb) := X6.out.cell 2
          have h3 : w6.cell? ⟨w.heap.size, 3, none⟩ = some (.int .i64 sc) := X6.out.cell 3
          have y0 : w6.cell? ⟨xb, 0, none⟩ = some (.int .i8 0) := Y6.out.cell 0
          have y1 : w6.cell? ⟨xb, 1, none⟩ = some (.int .i64 0) := Y6.out.cell 1
          have y2 : w6.cell? ⟨xb, 2, none⟩ = some (.int .i64 0) := Y6.out.cell 2
          have y3 : w6.cell? ⟨xb, 3, none⟩ = some (.int .i64 0) := Y6.out.cell 3
          have y4 : w6.cell? ⟨xb, 4, none⟩ = some (.bool false) := Y6.out.cell 4
          have z0 : w6.frozen? ⟨xb, 0, none⟩ = false := Y6.out.free 0
          have z1 : w6.frozen? ⟨xb, 1, none⟩ = false := Y6.out.free 1
          have z2 : w6.frozen? ⟨xb, 2, none⟩ = false := Y6.out.free 2
          have z3 : w6.frozen? ⟨xb, 3, none⟩ = false := Y6.out.free 3
          have z4 : w6.frozen? ⟨xb, 4, none⟩ = false := Y6.out.free 4
          have OUT : Hid (Left w1.heap.size g w5 (fun k => k = w.heap.size ∨ k = xb) xb T B S.tr (e != 0) 1 a v 0 (e == 0) (((((w6.setCell ⟨xb, 0, none⟩ (.int .i8 1)).setCell ⟨xb, 1, none⟩ (.int .i64 a)).setCell ⟨xb, 2, none⟩ (.int .i64 v)).setCell ⟨xb, 3, none⟩ (.int .i64 0)).setCell ⟨xb, 4, none⟩ (.bool (e == 0)))) :=
            ⟨_, _, H6.out.write (fr5 w6 xb _ _ _ _ _) (fun k hk => ⟨.inr hk, by rw [hk]; exact G5.out.2⟩), five Y6.out _ _ _ _ _, SE.out.1, SE.out.2, rfl, rfl, rfl, fun _ => rfl, rfl⟩
          go_wp2_with fail
          go_meet
          exact ⟨_, _, _, _, _, _, rfl, OUT.out⟩
        · have SE : Hid ((S.store a sb).tr = S.tr ++ [⟨2, a, sb, v, e == 0⟩] ∧ (S.store a sb).bad = if (e != 0) then B + 1 else B) := ⟨by simp [Cm.store, LK.out], LE.out⟩
          go_wp2_with fail
          refine (H5.out.op fun F m1 m2 => store_any _ g F S a w5 sb m1 m2 (by rw [TB.out]; omega) (by rw [TT.out]; omega)).mono ?_
          rintro e' w6 ⟨rfl, h6, k6⟩
          rw [LK.out]
          have X6 := Mm.hid (X5.out.keep (k6 _ (.inl rfl)))
          have Y6 := Mm.hid (Y5.out.keep (k6 _ (.inr rfl)))
          have H6 := Mm.hid h6
          clear h6 k6 h1 h2 h3
          have h1 : w6.cell? ⟨w.heap.size, 1, none⟩ = some (.int .i64 a) := by have := X6.out.cell 1; rw [AP.out] at this; exact this
          have h2 : w6.cell? ⟨w.heap.size, 2, none⟩ = some (.int .i64 sb) := X6.out.cell 2
          have h3 : w6.cell? ⟨w.heap.size, 3, none⟩ = some (.int .i64 sc) := X6.out.cell 3
          have y0 : w6.cell? ⟨xb, 0, none⟩ = some (.int .i8 0) := Y6.out.cell 0
          have y1 : w6.cell? ⟨xb, 1, none⟩ = some (.int .i64 0) := Y6.out.cell 1
          have y2 : w6.cell? ⟨xb, 2, none⟩ = some (.int .i64 0) := Y6.out.cell 2
          have y3 : w6.cell? ⟨xb, 3, none⟩ = some (.int .i64 0) := Y6.out.cell 3
          have y4 : w6.cell? ⟨xb, 4, none⟩ = some (.bool false) := Y6.out.cell 4
          have z0 : w6.frozen? ⟨xb, 0, none⟩ = false := Y6.out.free 0
          have z1 : w6.frozen? ⟨xb, 1, none⟩ = false := Y6.out.free 1
          have z2 : w6.frozen? ⟨xb, 2, none⟩ = false := Y6.out.free 2
          have z3 : w6.frozen? ⟨xb, 3, none⟩ = false := Y6.out.free 3
          have z4 : w6.frozen? ⟨xb, 4, none⟩ = false := Y6.out.free 4
          have OUT : Hid (Left w1.heap.size g w5 (fun k => k = w.heap.size ∨ k = xb) xb T B S.tr (e != 0) 2 a sb 0 (e == 0) (((((w6.setCell ⟨xb, 0, none⟩ (.int .i8 2)).setCell ⟨xb, 1, none⟩ (.int .i64 a)).setCell ⟨xb, 2, none⟩ (.int .i64 sb)).setCell ⟨xb, 3, none⟩ (.int .i64 0)).setCell ⟨xb, 4, none⟩ (.bool (e == 0)))) :=
            ⟨_, _, H6.out.write (fr5 w6 xb _ _ _ _ _) (fun k hk => ⟨.inr hk, by rw [hk]; exact G5.out.2⟩), five Y6.out _ _ _ _ _, SE.out.1, SE.out.2, rfl, rfl, rfl, fun h => absurd rfl h, rfl⟩
          go_wp2_with fail
          go_meet
          exact ⟨_, _, _, _, _, _, rfl, OUT.out⟩
        · obtain ⟨ok, hok⟩ : ∃ ok, S.swaps a sb = ok := ⟨_, rfl⟩
          have SW := Mm.hid hok
          clear hok
          have SE : Hid ((S.swap a sb sc).tr = S.tr ++ [⟨3, a, sc, v, ok⟩] ∧ (S.swap a sb sc).bad = if (e != 0) then B + 1 else B) := ⟨by simp [Cm.swap, SW.out, LK.out], LE.out⟩
          go_wp2_with fail
          refine (H5.out.op fun F m1 m2 => swap_any _ g F S a w5 sb sc m1 m2 (by rw [TB.out]; omega) (by rw [TT.out]; omega)).mono ?_
          rintro e' w6 ⟨rfl, h6, k6⟩
          rw [LK.out, SW.out]
          have X6 := Mm.hid (X5.out.keep (k6 _ (.inl rfl)))
          have Y6 := Mm.hid (Y5.out.keep (k6 _ (.inr rfl)))
          have H6 := Mm.hid h6
          clear h6 k6 h1 h2 h3
          have h1 : w6.cell? ⟨w.heap.size, 1, none⟩ = some (.int .i64 a) := by have := X6.out.cell 1; rw [AP.out] at this; exact this
          have h2 : w6.cell? ⟨w.heap.size, 2, none⟩ = some (.int .i64 sb) := X6.out.cell 2
          have h3 : w6.cell? ⟨w.heap.size, 3, none⟩ = some (.int .i64 sc) := X6.out.cell 3
          have y0 : w6.cell? ⟨xb, 0, none⟩ = some (.int .i8 0) := Y6.out.cell 0
          have y1 : w6.cell? ⟨xb, 1, none⟩ = some (.int .i64 0) := Y6.out.cell 1
          have y2 : w6.cell? ⟨xb, 2, none⟩ = some (.int .i64 0) := Y6.out.cell 2
          have y3 : w6.cell? ⟨xb, 3, none⟩ = some (.int .i64 0) := Y6.out.cell 3
          have y4 : w6.cell? ⟨xb, 4, none⟩ = some (.bool false) := Y6.out.cell 4
          have z0 : w6.frozen? ⟨xb, 0, none⟩ = false := Y6.out.free 0
          have z1 : w6.frozen? ⟨xb, 1, none⟩ = false := Y6.out.free 1
          have z2 : w6.frozen? ⟨xb, 2, none⟩ = false := Y6.out.free 2
          have z3 : w6.frozen? ⟨xb, 3, none⟩ = false := Y6.out.free 3
          have z4 : w6.frozen? ⟨xb, 4, none⟩ = false := Y6.out.free 4
          have OUT : Hid (Left w1.heap.size g w5 (fun k => k = w.heap.size ∨ k = xb) xb T B S.tr (e != 0) 3 a sc v (ok) (((((w6.setCell ⟨xb, 0, none⟩ (.int .i8 3)).setCell ⟨xb, 1, none⟩ (.int .i64 a)).setCell ⟨xb, 2, none⟩ (.int .i64 sc)).setCell ⟨xb, 3, none⟩ (.int .i64 v)).setCell ⟨xb, 4, none⟩ (.bool (ok)))) :=
            ⟨_, _, H6.out.write (fr5 w6 xb _ _ _ _ _) (fun k hk => ⟨.inr hk, by rw [hk]; exact G5.out.2⟩), five Y6.out _ _ _ _ _, SE.out.1, SE.out.2, rfl, rfl, rfl, fun _ => rfl, rfl⟩
          by_cases q1 : a < 0
          · have er : Hid ((e != 0) = true) := by
              have := LK.out
              unfold Cm.look at this
              rw [if_neg (fun h => absurd h.1 (by omega))] at this
              injection this with _ h
              show _ = _
              rw [← h]; rfl
            rw [er.out] at OUT
            go_wp2_with fail
            go_meet
            exact ⟨_, _, _, _, _, _, rfl, OUT.out⟩
          by_cases q2 : (n : Int) ≤ a
          · have er : Hid ((e != 0) = true) := by
              have := LK.out
              unfold Cm.look at this
              rw [if_neg (fun h => absurd h.2 (by rw [MD.out.1]; omega))] at this
              injection this with _ h
              show _ = _
              rw [← h]; rfl
            rw [er.out] at OUT
            go_wp2_with fail
            go_meet
            exact ⟨_, _, _, _, _, _, rfl, OUT.out⟩
          have er : Hid ((e != 0) = (decide (a < 0) || decide ((n : Int) ≤ a) || v == -4611686018427387904)) := by
            have := LK.out
            unfold Cm.look at this
            rw [if_pos ⟨by omega, by rw [MD.out.1]; omega⟩] at this
            show _ = _
            rw [decide_eq_false q1, decide_eq_false q2, Bool.false_or, Bool.false_or]
            split at this
            · injection this with h1 h2
              rw [← h1, ← h2]; rfl
            · rename_i hne
              injection this with h1 h2
              rw [← h1, ← h2]
              exact (beq_eq_false_iff_ne.2 hne).symm
          rw [er.out] at OUT
          go_wp2_with fail
          go_meet
          exact ⟨_, _, _, _, _, _, rfl, OUT.out⟩
        · have SE : Hid ((S.add a sb).tr = S.tr ++ [⟨4, a, sb, v, e == 0⟩] ∧ (S.add a sb).bad = if (e != 0) then B + 1 else B) := ⟨by simp [Cm.add, LK.out], LE.out⟩
          go_wp2_with fail
          refine (H5.out.op fun F m1 m2 => add_any _ g F S a w5 sb m1 m2 (by rw [TB.out]; omega) (by rw [TT.out]; omega)).mono ?_
          rintro e' w6 ⟨rfl, h6, k6⟩
          rw [LK.out]
          have X6 := Mm.hid (X5.out.keep (k6 _ (.inl rfl)))
          have Y6 := Mm.hid (Y5.out.keep (k6 _ (.inr rfl)))
          have H6 := Mm.hid h6
          clear h6 k6 h1 h2 h3
          have h1 : w6.cell? ⟨w.heap.size, 1, none⟩ = some (.int .i64 a) := by have := X6.out.cell 1; rw [AP.out] at this; exact this
          have h2 : w6.cell? ⟨w.heap.size, 2, none⟩ = some (.int .i64 sb) := X6.out.cell 2
          have h3 : w6.cell? ⟨w.heap.size, 3, none⟩ = some (.int .i64 sc) := X6.out.cell 3
          have y0 : w6.cell? ⟨xb, 0, none⟩ = some (.int .i8 0) := Y6.out.cell 0
          have y1 : w6.cell? ⟨xb, 1, none⟩ = some (.int .i64 0) := Y6.out.cell 1
          have y2 : w6.cell? ⟨xb, 2, none⟩ = some (.int .i64 0) := Y6.out.cell 2
          have y3 : w6.cell? ⟨xb, 3, none⟩ = some (.int .i64 0) := Y6.out.cell 3
          have y4 : w6.cell? ⟨xb, 4, none⟩ = some (.bool false) := Y6.out.cell 4
          have z0 : w6.frozen? ⟨xb, 0, none⟩ = false := Y6.out.free 0
          have z1 : w6.frozen? ⟨xb, 1, none⟩ = false := Y6.out.free 1
          have z2 : w6.frozen? ⟨xb, 2, none⟩ = false := Y6.out.free 2
          have z3 : w6.frozen? ⟨xb, 3, none⟩ = false := Y6.out.free 3
          have z4 : w6.frozen? ⟨xb, 4, none⟩ = false := Y6.out.free 4
          have OUT : Hid (Left w1.heap.size g w5 (fun k => k = w.heap.size ∨ k = xb) xb T B S.tr (e != 0) 4 a sb v (e == 0) (((((w6.setCell ⟨xb, 0, none⟩ (.int .i8 4)).setCell ⟨xb, 1, none⟩ (.int .i64 a)).setCell ⟨xb, 2, none⟩ (.int .i64 sb)).setCell ⟨xb, 3, none⟩ (.int .i64 v)).setCell ⟨xb, 4, none⟩ (.bool (e == 0)))) :=
            ⟨_, _, H6.out.write (fr5 w6 xb _ _ _ _ _) (fun k hk => ⟨.inr hk, by rw [hk]; exact G5.out.2⟩), five Y6.out _ _ _ _ _, SE.out.1, SE.out.2, rfl, rfl, rfl, fun _ => rfl, rfl⟩
          go_wp2_with fail
          go_meet
          exact ⟨_, _, _, _, _, _, rfl, OUT.out⟩
      case rest =>
        obtain ⟨r, kk, aa, vv, oo, good, rfl, LF⟩ := hcut
        obtain ⟨S2, z, h1, h2, t1, t2, t3, t4, t5, t6, t7⟩ := LF.out.out
        have B6 := Mm.hid (B5.out.trans ((show Below w1.heap.size w5 wc by obtain ⟨_, _, h, _⟩ := h1.out; exact h).mono (Nat.le_of_lt hbx)))
        have hb6 : w1.heap.size ≤ wc.heap.size := by obtain ⟨_, h, _⟩ := h1.out; have := h.lt g h.fg; omega
        have H6 := Mm.hid (h1.has (K := fun w' => Blk w' xb 47 #[.int .i8 kk, .int .i64 aa, .int .i64 vv, .int .i64 oo, .bool good]) fun w2 _ hk => h2.keep (hk xb (.inr rfl)))
        have TR : Hid (S2.tr.length = T + 1) := by show _ = _; rw [t1, List.length_append, TT.out]; rfl
        have TZ : Hid (S2.tr[T]? = some z) := by show _ = _; rw [t1, ← TT.out]; simp
        have BZ := Mm.hid t2
        have ZZ := Mm.hid (And.intro t3 (And.intro t4 (And.intro t5 (And.intro t6 t7))))
        clear h1 h2 t1 t2 t3 t4 t5 t6 t7 LF H5 X5 Y5
        go_wp2_with fail
        obtain ⟨F6, _, f61, _⟩ := H6.out.out
        refine (trace_any _ g F6 S2 _ f61 (by rw [TR.out]; omega)).mono ?_
        rintro e w7 ⟨A7, m7, c7, rfl, hc7, O7⟩
        obtain rfl : m7 = T + 1 := by rw [← O7.out.1]; exact TR.out
        have H7 := Mm.hid (H6.out.row O7.out.2.1 O7.out.2.2)
        obtain ⟨_, _, hv, _, hob, _⟩ := own_slice O7.out.2.1
        injection hv with hv1 _ hv3
        subst hv1
        subst hv3
        have NE : Hid (∀ ad, A7 = some ad → ad.block ≠ xb) := fun ad hA => by have := (own_lt O7.out.2.1 (hob ad hA)).1; have := H6.out.keeps.lt; omega
        have B7 := Mm.hid (B6.out.trans (O7.out.2.2.mono (Nat.le_trans (Nat.le_of_lt hbx) hb6)))
        have Y7 := Mm.hid H7.out.keeps.1
        have R7 := Mm.hid H7.out.keeps.2
        have hxw : w.heap.size ≤ xb := by have := G5.out.2; omega
        clear O7 hob f61 H6 B6
        cases r
        · have BB : Hid (S2.bad = B) := BZ.out
          go_wp2_with fail
          refine (H7.out.bad BB.out).mono ?_
          rintro e w7' ⟨rfl, rfl⟩
          go_wp2_with fail
          refine (H7.out.bad BB.out).mono ?_
          rintro e w7' ⟨rfl, rfl⟩
          clear BB BZ
          by_cases q1 : kk = 2
          · subst q1
            have hW := Fr.setCell w7 ⟨xb, 3, none⟩ (.int .i64 z.o)
            have R8 : Rd (w7.setCell ⟨xb, 3, none⟩ (.int .i64 z.o)) A7 (T + 1) 5 (S2.tr.flatMap fAcc) := hW.rd R7.out fun ad hA (he : ad.block = xb) => NE.out ad hA he
            obtain ⟨ad7, hA8, _, e0, e1, e2, e3, e4⟩ := rd_acc R8 TR.out TZ.out
            obtain ⟨ad9, hA7, _, f0, f1, f2, f3, f4⟩ := rd_acc R7.out TR.out TZ.out
            rw [hA8] at hA7
            injection hA7 with hA7
            subst hA7
            subst hA8
            have Y8 := Y7.out.set 3 (.int .i64 z.o)
            obtain ⟨t3, t4, t5, t6, t7⟩ := ZZ.out
            have x0 : w7.cell? ⟨xb, 0, none⟩ = some (.int .i8 2) := Y7.out.cell 0
            have x3 : w7.cell? ⟨xb, 3, none⟩ = some (.int .i64 oo) := Y7.out.cell 3
            have x4 : w7.frozen? ⟨xb, 3, none⟩ = false := Y7.out.free 3
            have s0 : (w7.setCell ⟨xb, 3, none⟩ (.int .i64 z.o)).cell? ⟨xb, 0, none⟩ = some (.int .i8 2) := Y8.cell 0
            have s1 : (w7.setCell ⟨xb, 3, none⟩ (.int .i64 z.o)).cell? ⟨xb, 1, none⟩ = some (.int .i64 aa) := Y8.cell 1
            have s2 : (w7.setCell ⟨xb, 3, none⟩ (.int .i64 z.o)).cell? ⟨xb, 2, none⟩ = some (.int .i64 vv) := Y8.cell 2
            have s3 : (w7.setCell ⟨xb, 3, none⟩ (.int .i64 z.o)).cell? ⟨xb, 3, none⟩ = some (.int .i64 z.o) := Y8.cell 3
            have s4 : (w7.setCell ⟨xb, 3, none⟩ (.int .i64 z.o)).cell? ⟨xb, 4, none⟩ = some (.bool good) := Y8.cell 4
            rw [t3] at e0 f0
            rw [t4] at e1 f1
            rw [t5] at e2 f2
            rw [t7] at e4 f4
            have BF : Hid (∀ d, Below w.heap.size w ((w7.setCell ⟨xb, 3, none⟩ (.int .i64 z.o)).drewN d)) := fun d => by
              have hb := B7.out.setCell (p := ⟨xb, 3, none⟩) hxw (.int .i64 z.o)
              exact ⟨hb.os, hb.tape, hb.output, hb.size, hb.block⟩
            clear hW R8 Y8 t3 t4 t5 t6 t7
            go_wp2_with fail
            go_quiet (fail)
            go_wp2
            go_ret
            exact ⟨by simp, BF.out _⟩
          · have kb : (kk == 2) = false := beq_eq_false_iff_ne.2 q1
            obtain ⟨ad7, rfl, _, e0, e1, e2, e3, e4⟩ := rd_acc R7.out TR.out TZ.out
            obtain ⟨t3, t4, t5, t6, t7⟩ := ZZ.out
            rw [t3] at e0
            rw [t4] at e1
            rw [t5] at e2
            rw [t6 q1] at e3
            rw [t7] at e4
            have s0 : w7.cell? ⟨xb, 0, none⟩ = some (.int .i8 kk) := Y7.out.cell 0
            have s1 : w7.cell? ⟨xb, 1, none⟩ = some (.int .i64 aa) := Y7.out.cell 1
            have s2 : w7.cell? ⟨xb, 2, none⟩ = some (.int .i64 vv) := Y7.out.cell 2
            have s3 : w7.cell? ⟨xb, 3, none⟩ = some (.int .i64 oo) := Y7.out.cell 3
            have s4 : w7.cell? ⟨xb, 4, none⟩ = some (.bool good) := Y7.out.cell 4
            have BF : Hid (∀ d, Below w.heap.size w (w7.drewN d)) := fun d => ⟨B7.out.os, B7.out.tape, B7.out.output, B7.out.size, B7.out.block⟩
            clear t3 t4 t5 t6 t7 q1
            go_wp2_with fail
            go_quiet (fail)
            go_wp2
            go_ret
            exact ⟨by simp, BF.out _⟩
        · have BB : Hid (S2.bad = B + 1) := BZ.out
          go_wp2_with fail
          refine (H7.out.bad BB.out).mono ?_
          rintro e w7' ⟨rfl, rfl⟩
          go_wp2_with fail
          refine (H7.out.bad BB.out).mono ?_
          rintro e w7' ⟨rfl, rfl⟩
          clear BB BZ
          by_cases q1 : kk = 2
          · subst q1
            have hW := Fr.setCell w7 ⟨xb, 3, none⟩ (.int .i64 z.o)
            have R8 : Rd (w7.setCell ⟨xb, 3, none⟩ (.int .i64 z.o)) A7 (T + 1) 5 (S2.tr.flatMap fAcc) := hW.rd R7.out fun ad hA (he : ad.block = xb) => NE.out ad hA he
            obtain ⟨ad7, hA8, _, e0, e1, e2, e3, e4⟩ := rd_acc R8 TR.out TZ.out
            obtain ⟨ad9, hA7, _, f0, f1, f2, f3, f4⟩ := rd_acc R7.out TR.out TZ.out
            rw [hA8] at hA7
            injection hA7 with hA7
            subst hA7
            subst hA8
            have Y8 := Y7.out.set 3 (.int .i64 z.o)
            obtain ⟨t3, t4, t5, t6, t7⟩ := ZZ.out
            have x0 : w7.cell? ⟨xb, 0, none⟩ = some (.int .i8 2) := Y7.out.cell 0
            have x3 : w7.cell? ⟨xb, 3, none⟩ = some (.int .i64 oo) := Y7.out.cell 3
            have x4 : w7.frozen? ⟨xb, 3, none⟩ = false := Y7.out.free 3
            have s0 : (w7.setCell ⟨xb, 3, none⟩ (.int .i64 z.o)).cell? ⟨xb, 0, none⟩ = some (.int .i8 2) := Y8.cell 0
            have s1 : (w7.setCell ⟨xb, 3, none⟩ (.int .i64 z.o)).cell? ⟨xb, 1, none⟩ = some (.int .i64 aa) := Y8.cell 1
            have s2 : (w7.setCell ⟨xb, 3, none⟩ (.int .i64 z.o)).cell? ⟨xb, 2, none⟩ = some (.int .i64 vv) := Y8.cell 2
            have s3 : (w7.setCell ⟨xb, 3, none⟩ (.int .i64 z.o)).cell? ⟨xb, 3, none⟩ = some (.int .i64 z.o) := Y8.cell 3
            have s4 : (w7.setCell ⟨xb, 3, none⟩ (.int .i64 z.o)).cell? ⟨xb, 4, none⟩ = some (.bool good) := Y8.cell 4
            rw [t3] at e0 f0
            rw [t4] at e1 f1
            rw [t5] at e2 f2
            rw [t7] at e4 f4
            have BF : Hid (∀ d, Below w.heap.size w ((w7.setCell ⟨xb, 3, none⟩ (.int .i64 z.o)).drewN d)) := fun d => by
              have hb := B7.out.setCell (p := ⟨xb, 3, none⟩) hxw (.int .i64 z.o)
              exact ⟨hb.os, hb.tape, hb.output, hb.size, hb.block⟩
            clear hW R8 Y8 t3 t4 t5 t6 t7
            go_wp2_with fail
            go_quiet (fail)
            go_wp2
            go_ret
            exact ⟨by simp, BF.out _⟩
          · have kb : (kk == 2) = false := beq_eq_false_iff_ne.2 q1
            obtain ⟨ad7, rfl, _, e0, e1, e2, e3, e4⟩ := rd_acc R7.out TR.out TZ.out
            obtain ⟨t3, t4, t5, t6, t7⟩ := ZZ.out
            rw [t3] at e0
            rw [t4] at e1
            rw [t5] at e2
            rw [t6 q1] at e3
            rw [t7] at e4
            have s0 : w7.cell? ⟨xb, 0, none⟩ = some (.int .i8 kk) := Y7.out.cell 0
            have s1 : w7.cell? ⟨xb, 1, none⟩ = some (.int .i64 aa) := Y7.out.cell 1
            have s2 : w7.cell? ⟨xb, 2, none⟩ = some (.int .i64 vv) := Y7.out.cell 2
            have s3 : w7.cell? ⟨xb, 3, none⟩ = some (.int .i64 oo) := Y7.out.cell 3
            have s4 : w7.cell? ⟨xb, 4, none⟩ = some (.bool good) := Y7.out.cell 4
            have BF : Hid (∀ d, Below w.heap.size w (w7.drewN d)) := fun d => ⟨B7.out.os, B7.out.tape, B7.out.output, B7.out.size, B7.out.block⟩
            clear t3 t4 t5 t6 t7 q1
            go_wp2_with fail
            go_quiet (fail)
            go_wp2
            go_ret
            exact ⟨by simp, BF.out _⟩
end Go.Proofs.Ytkbobgblohohcaa

/- The steps of a script, opened. -/
import Derived.Test.YtkbobgblohohcaaHas
namespace Go.Proofs.Ytkbobgblohohcaa
open Go.RowKit Go.Mm Go.Cells Go.WideShapes
set_option maxRecDepth 100000
structure Stp where
  d : Int
  a : Int
  b : Int
  c : Int
  x : Acc
def fX (s : Stp) : List Value := [.int .i64 s.d, .int .i64 s.a, .int .i64 s.b, .int .i64 s.c, .int .i8 s.x.k, .int .i64 s.x.a, .int .i64 s.x.v, .int .i64 s.x.o, .bool s.x.good]
def gA (x : Acc) : Prop := (Lit.int .i8 x.k).wf = true ∧ gI x.a ∧ gI x.v ∧ gI x.o
def gX (s : Stp) : Prop := gI s.d ∧ gI s.a ∧ gI s.b ∧ gI s.c ∧ gA s.x
section
variable {H : Type} {enc : TypeId × Value → H} {w : World} {b0 : Nat} {spare : Nat → Bool} {held : Bool} {v : Value} {d : DataW H} {ps : List MemPlace} {ts : List TypeId} {ds : List (DataW H)} {j : Nat}
theorem trod_acc {n : Nat} {cs : List Value} {x : DataW H × List MemPlace} (h : DataW.trod enc Try.prog w 0 spare held n 47 cs = some x) : ∃ y, fAcc y = cs ∧ gA y := by
  obtain ⟨xs, k, _, _, hl, hlen, hf⟩ := DataW.trod_struct Try.underlying47 h
  have hc : Try.prog.cellsOf 47 = 5 := by kernel_rfl
  have hc3 : Try.prog.cellsOf 3 = 1 := by kernel_rfl
  have hc45 : Try.prog.cellsOf 45 = 1 := by kernel_rfl
  have hc4 : Try.prog.cellsOf 4 = 1 := by kernel_rfl
  rw [hc] at hl
  match cs, hl, xs, hlen, hf with
  | [c0, c1, c2, c3, c4], _, [x0, x1, x2, x3, x4], _, hf =>
    have e0 := hf 0 _ rfl
    have e1 := hf 1 _ rfl
    have e2 := hf 2 _ rfl
    have e3 := hf 3 _ rfl
    have e4 := hf 4 _ rfl
    obtain ⟨a0, r0, _, w0⟩ := DataW.trod_int Try.underlying45 (show DataW.trod enc Try.prog w 0 spare held k 45 [c0] = some x0 from e0)
    obtain ⟨a1, r1, _, w1⟩ := DataW.trod_int Try.underlying3 (show DataW.trod enc Try.prog w 0 spare held k 3 [c1] = some x1 from e1)
    obtain ⟨a2, r2, _, w2⟩ := DataW.trod_int Try.underlying3 (show DataW.trod enc Try.prog w 0 spare held k 3 [c2] = some x2 from e2)
    obtain ⟨a3, r3, _, w3⟩ := DataW.trod_int Try.underlying3 (show DataW.trod enc Try.prog w 0 spare held k 3 [c3] = some x3 from e3)
    obtain ⟨a4, r4, _⟩ := DataW.trod_bool Try.underlying4 (show DataW.trod enc Try.prog w 0 spare held k 4 [c4] = some x4 from e4)
    simp only [List.cons.injEq, and_true] at r0 r1 r2 r3 r4
    subst r0; subst r1; subst r2; subst r3; subst r4
    exact ⟨⟨a0, a1, a2, a3, a4⟩, rfl, w0, w1, w2, w3⟩
theorem trod_step {n : Nat} {cs : List Value} {x : DataW H × List MemPlace} (h : DataW.trod enc Try.prog w 0 spare held n 49 cs = some x) : ∃ y, fX y = cs ∧ gX y := by
  obtain ⟨xs, k, _, _, hl, hlen, hf⟩ := DataW.trod_struct Try.underlying49 h
  have hc : Try.prog.cellsOf 49 = 9 := by kernel_rfl
  have hc47 : Try.prog.cellsOf 47 = 5 := by kernel_rfl
  have hc3 : Try.prog.cellsOf 3 = 1 := by kernel_rfl
  rw [hc] at hl
  match cs, hl, xs, hlen, hf with
  | [c0, c1, c2, c3, c4, c5, c6, c7, c8], _, [x0, x1, x2, x3, x4], _, hf =>
    have e0 := hf 0 _ rfl
    have e1 := hf 1 _ rfl
    have e2 := hf 2 _ rfl
    have e3 := hf 3 _ rfl
    have e4 := hf 4 _ rfl
    obtain ⟨a0, r0, _, w0⟩ := DataW.trod_int Try.underlying3 (show DataW.trod enc Try.prog w 0 spare held k 3 [c0] = some x0 from e0)
    obtain ⟨a1, r1, _, w1⟩ := DataW.trod_int Try.underlying3 (show DataW.trod enc Try.prog w 0 spare held k 3 [c1] = some x1 from e1)
    obtain ⟨a2, r2, _, w2⟩ := DataW.trod_int Try.underlying3 (show DataW.trod enc Try.prog w 0 spare held k 3 [c2] = some x2 from e2)
    obtain ⟨a3, r3, _, w3⟩ := DataW.trod_int Try.underlying3 (show DataW.trod enc Try.prog w 0 spare held k 3 [c3] = some x3 from e3)
    obtain ⟨y, r4, w4⟩ := trod_acc (show DataW.trod enc Try.prog w 0 spare held k 47 [c4, c5, c6, c7, c8] = some x4 from e4)
    simp only [fAcc, List.cons.injEq, and_true] at r0 r1 r2 r3 r4
    obtain ⟨s0, s1, s2, s3, s4⟩ := r4
    subst r0; subst r1; subst r2; subst r3; subst s0; subst s1; subst s2; subst s3; subst s4
    exact ⟨⟨a0, a1, a2, a3, y⟩, rfl, w0, w1, w2, w3, w4⟩
theorem open_step (hval : Value.okWide Try.prog w .any b0 49 v) (hd : DataW.Trod enc Try.prog w 0 spare held 49 v d ps) : ∃ s, v = .agg (fX s).toArray ∧ gX s := by
  obtain ⟨cs, rfl, _⟩ := okWide_struct Try.underlying49 hval
  obtain ⟨n, hn⟩ := hd
  obtain ⟨y, h1, h2⟩ := trod_step hn
  refine ⟨y, ?_, h2⟩
  rw [h1]
  simp [Value.cells]
theorem open_steps (hval : Value.okWide Try.prog w .any b0 51 v) (hd : DataW.Trod enc Try.prog w 0 spare held 51 v d ps)
    (hz : (DataW.weightsEach Try.prog ts ds).all (· ≤ reachBytes) = true) (hj : ts[j]? = some 51) (hj' : ds[j]? = some d) :
    ∃ A n c xs, v = .slice A n c ∧ Sl w 9 72 fX gX A n c xs :=
  open_sl fX gX Try.underlying51 (by kernel_rfl) (by decide) (by kernel_rfl) (fun _ _ _ h => trod_step h) hval hd hz hj hj'
end
section
variable {base g : Nat} {w0 w w' : World} {K : World → Prop} {S : Cm}
theorem Has.blk (h : Has base g w0 K S w) {b : Nat} {e : TypeId} {cs : Array Value} (hb : Blk w b e cs) (hl : b < base) : Has base g w0 (fun w => K w ∧ Blk w b e cs) S w := by
  obtain ⟨F, G, h1, h2, h3, h4⟩ := h.out
  refine ⟨F, fun k => G k ∨ k = b, h1, h2, ?_, fun w1 hw hk => ⟨h4 w1 hw fun k hG => hk k (.inl hG), hb.keep (hk b (.inr rfl))⟩⟩
  rintro k (hG | rfl)
  · exact h3 k hG
  · exact ⟨hb.lt, fun hF => by have := (h1.lt k hF).1; omega⟩
/-- begun anew: what was written lies ahead of it -/
theorem Has.anew (h : Has base g w0 K S w) {T : Nat → Prop} (hf : Fr T w w') (hT : ∀ k, T k → k < base) : Has base g w' (fun _ => True) S w' := by
  obtain ⟨F, G, h1, h2, h3, h4⟩ := h.out
  exact ⟨F, fun _ => False, h1.fr hf fun k hk ht => by have := (h1.lt k hk).1; have := hT k ht; omega, Below.refl _ _, fun _ h => h.elim, fun _ _ _ => trivial⟩
end
/-- the words, the number of notes and of refusals -/
def Sp (ws : List Int) (T B : Nat) (S : Cm) : Prop := S.ws = ws ∧ S.tr.length = T ∧ S.bad = B
theorem bad_look {S : Cm} {i : Nat} (h : S.ws[i]? = some poison) : S.look i = (-4611686018427387904, 141) ∧ S.looked i = S.bad + 1 := look_bad h rfl
theorem bad_load {S : Cm} {ws : List Int} {T B i : Nat} (hs : Sp ws T B S) (h : ws[i]? = some poison) : S.look i = (-4611686018427387904, 141) ∧ Sp ws (T + 1) (B + 1) (S.load i) := by
  obtain ⟨rfl, rfl, rfl⟩ := hs
  obtain ⟨h1, h2⟩ := bad_look h
  exact ⟨h1, rfl, by simp [Cm.load], h2⟩
theorem bad_store {S : Cm} {ws : List Int} {T B i : Nat} {y : Int} (hs : Sp ws T B S) (h : ws[i]? = some poison) : S.look i = (-4611686018427387904, 141) ∧ Sp ws (T + 1) (B + 1) (S.store i y) := by
  obtain ⟨rfl, rfl, rfl⟩ := hs
  obtain ⟨h1, h2⟩ := bad_look h
  exact ⟨h1, by unfold Cm.store; simp [h1], by simp [Cm.store], h2⟩
theorem bad_add {S : Cm} {ws : List Int} {T B i : Nat} {y : Int} (hs : Sp ws T B S) (h : ws[i]? = some poison) : S.look i = (-4611686018427387904, 141) ∧ Sp ws (T + 1) (B + 1) (S.add i y) := by
  obtain ⟨rfl, rfl, rfl⟩ := hs
  obtain ⟨h1, h2⟩ := bad_look h
  exact ⟨h1, by unfold Cm.add; simp [h1], by simp [Cm.add], h2⟩
theorem bad_swap {S : Cm} {ws : List Int} {T B i : Nat} {old y : Int} (hs : Sp ws T B S) (h : ws[i]? = some poison) : S.look i = (-4611686018427387904, 141) ∧ S.swaps i old = false ∧ Sp ws (T + 1) (B + 1) (S.swap i old y) := by
  obtain ⟨rfl, rfl, rfl⟩ := hs
  obtain ⟨h1, h2⟩ := bad_look h
  have h3 : S.swaps i old = false := by unfold Cm.swaps; rw [h1]; rfl
  exact ⟨h1, h3, by unfold Cm.swap; simp [h3], by simp [Cm.swap], h2⟩
end Go.Proofs.Ytkbobgblohohcaa

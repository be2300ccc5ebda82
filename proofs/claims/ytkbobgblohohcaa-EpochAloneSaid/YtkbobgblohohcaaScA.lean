/- The law LockScript: a memory and the document's, and what lies beside both. -/
import Derived.Test.YtkbobgblohohcaaRefF
import Derived.Test.YtkbobgblohohcaaTurnP
namespace Go.Proofs.Ytkbobgblohohcaa
open Go.RowKit Go.Mm Go.Cells
/-- a memory and the document's, of which the blocks G are none -/
structure LB (base g r lb : Nat) (w0 : World) (G : Nat → Prop) (S S2 : Cm) (w : World) : Prop where mk ::
  out : ∃ Fm Fq : Nat → Prop, MemB base Fm w g S ∧ RMem base Fq w r lb S2 ∧ (∀ k, Fm k → ¬ Fq k) ∧ (∀ k, G k → k < w.heap.size ∧ ¬ Fm k ∧ ¬ Fq k ∧ base ≤ k) ∧ Below base w0 w
/-- what an operation of the document's leaves: it may have written X too -/
structure RTX (base : Nat) (F X : Nat → Prop) (w : World) (r lb : Nat) (S' : Cm) (w' : World) : Prop where mk ::
  out : ∃ F' : Nat → Prop, RMem base F' w' r lb S' ∧ (∀ k, F' k → F k ∨ w.heap.size ≤ k) ∧ Fr (fun k => F k ∨ X k) w w'
def LE (base g r lb : Nat) (w0 : World) (G : Nat → Prop) (S S2 : Cm) (v : Value) (P : World → Prop) (X : Nat → Prop) (w : World) (e : Ending) (w' : World) : Prop := e = .returned v ∧ LB base g r lb w0 G S S2 w' ∧ P w' ∧ ∀ k, G k → ¬ X k → w'.heap[k]? = w.heap[k]?
section
variable {base g r lb lb' : Nat} {w0 w w' : World} {G G' X T : Nat → Prop} {S S' S2 : Cm} {f : FuncId} {args : Array Value} {v : Value} {P : World → Prop}
theorem RMem.keep {F : Nat → Prop} (h : RMem base F w r lb S) (hs : ∀ k, F k → k < w'.heap.size) (hk : ∀ k, F k → w'.heap[k]? = w.heap[k]?) : RMem base F w' r lb S := by
  obtain ⟨vL, vE, L, h1, h2, h3, h4, h5, h6, h7⟩ := h.out
  exact ⟨⟨vL, vE, L, h1.keep (hk r h.fg), own_keep h2 fun b hb => hk b (h4 b hb), own_keep h3 fun b hb => hk b (h5 b hb), h4, h5, h6, h7⟩, h.fg, fun k hk' => ⟨(h.lt k hk').1, hs k hk'⟩, h.wl⟩
theorem RTX.of {F : Nat → Prop} (h : RT base F w r lb S w') : RTX base F X w r lb S w' := by
  obtain ⟨F', h1, h2, h3⟩ := h.out
  exact ⟨F', h1, h2, h3.mono fun _ h => .inl h⟩
theorem LB.le (h : LB base g r lb w0 G S S2 w) : base ≤ w.heap.size := by
  obtain ⟨Fm, Fq, hm, _⟩ := h.out
  have := hm.lt g hm.fg; omega
theorem LB.to (h : LB base g r lb w0 G S S2 w) : Below base w0 w := by
  obtain ⟨_, _, _, _, _, _, h⟩ := h.out
  exact h
theorem LB.lt (h : LB base g r lb w0 G S S2 w) {k : Nat} (hk : G k) : k < w.heap.size := by
  obtain ⟨_, _, _, _, _, h, _⟩ := h.out
  exact (h k hk).1
theorem LB.ge (h : LB base g r lb w0 G S S2 w) {k : Nat} (hk : G k) : base ≤ k := by
  obtain ⟨_, _, _, _, _, h, _⟩ := h.out
  exact (h k hk).2.2.2
theorem LB.sub (h : LB base g r lb w0 G' S S2 w) (hs : ∀ k, G k → G' k) : LB base g r lb w0 G S S2 w := by
  obtain ⟨Fm, Fq, h1, h2, h3, h4, h5⟩ := h.out
  exact ⟨Fm, Fq, h1, h2, h3, fun k hk => h4 k (hs k hk), h5⟩
theorem LB.more (h : LB base g r lb w0 G S S2 w) (hl : lb ≤ lb') : LB base g r lb' w0 G S S2 w := by
  obtain ⟨Fm, Fq, h1, h2, h3, h4, h5⟩ := h.out
  exact ⟨Fm, Fq, h1, h2.mono hl, h3, h4, h5⟩
theorem LB.write (h : LB base g r lb w0 G S S2 w) (hf : Fr T w w') (hT : ∀ k, T k → G k) : LB base g r lb w0 G S S2 w' := by
  obtain ⟨Fm, Fq, h1, h2, h3, h4, h5⟩ := h.out
  exact ⟨Fm, Fq, h1.fr hf fun k hk ht => (h4 k (hT k ht)).2.1 hk, h2.fr hf fun k hk ht => (h4 k (hT k ht)).2.2.1 hk, h3, fun k hk => ⟨Nat.lt_of_lt_of_le (h4 k hk).1 hf.size, (h4 k hk).2⟩, h5.trans (hf.below (fun k hk => (h4 k (hT k hk)).2.2.2) h.le)⟩
theorem LB.after (h : LB base g r lb w0 G S S2 w) (hb : Below w.heap.size w w') : LB base g r lb w0 G S S2 w' := h.write (Fr.of_below hb) fun _ h => h.elim
theorem LB.drewN (h : LB base g r lb w0 G S S2 w) (d : Nat) : LB base g r lb w0 G S S2 (w.drewN d) := h.write (Fr.drewN (fun _ => False) w d) fun _ h => h.elim
theorem LB.drew (h : LB base g r lb w0 G S S2 w) : LB base g r lb w0 G S S2 w.drew := h.write (Fr.drew (fun _ => False) w) fun _ h => h.elim
/-- new blocks come in -/
theorem LB.fresh (h : LB base g r lb w0 G S S2 w) (hf : Fr T w w') (hT : ∀ k, T k → G k) : LB base g r lb w0 (fun k => G k ∨ (w.heap.size ≤ k ∧ k < w'.heap.size)) S S2 w' := by
  have hle := h.le
  obtain ⟨Fm, Fq, h1, h2, h3, h4, h5⟩ := (h.write hf hT).out
  obtain ⟨Em, Eq, e1, e2, e3, e4, e5⟩ := h.out
  refine ⟨Em, Eq, e1.fr hf fun k hk ht => (e4 k (hT k ht)).2.1 hk, e2.fr hf fun k hk ht => (e4 k (hT k ht)).2.2.1 hk, e3, ?_, h5⟩
  rintro k (hk | hk)
  · exact ⟨Nat.lt_of_lt_of_le (e4 k hk).1 hf.size, (e4 k hk).2⟩
  · exact ⟨hk.2, fun hF => by have := (e1.lt k hF).2; omega, fun hF => by have := (e2.lt k hF).2; omega, by omega⟩
theorem LB.grow (h : LB base g r lb w0 G S S2 w) (o : Obj) : LB base g r lb w0 (fun k => G k ∨ k = w.heap.size) S S2 (w.alloc o) :=
  (h.fresh (Fr.alloc (fun _ => False) w o) fun _ h => h.elim).sub fun k hk => hk.imp id fun e => ⟨by omega, by simp; omega⟩
/-- a call of the program's -/
theorem LB.op (h : LB base g r lb w0 G S S2 w) (hX : ∀ k, X k → G k)
    (hc : ∀ G', (∀ k, G k → G' k) → HasG base g w0 G' S w → Calls Try.prog f args w fun e w' => e = .returned v ∧ HasG base g w0 G' S' w' ∧ P w' ∧ ∀ k, G' k → ¬ X k → w'.heap[k]? = w.heap[k]?) :
    Calls Try.prog f args w (LE base g r lb w0 G S' S2 v P X w) := by
  obtain ⟨Fm, Fq, h1, h2, h3, h4, h5⟩ := h.out
  refine (hc (fun k => G k ∨ Fq k) (fun k hk => .inl hk) ⟨Fm, h1, h5, ?_⟩).mono ?_
  · rintro k (hk | hk)
    · exact ⟨(h4 k hk).1, (h4 k hk).2.1⟩
    · exact ⟨(h2.lt k hk).2, fun hF => h3 k hF hk⟩
  · rintro e w1 ⟨rfl, hG, hP, hk⟩
    obtain ⟨F', m, b, hd⟩ := hG.out
    refine ⟨rfl, ⟨F', Fq, m, h2.keep (fun k hq => (hd k (.inr hq)).1) (fun k hq => hk k (.inr hq) fun hx => (h4 k (hX k hx)).2.2.1 hq), fun k hF hq => (hd k (.inr hq)).2 hF, fun k hg => ⟨(hd k (.inl hg)).1, (hd k (.inl hg)).2, (h4 k hg).2.2⟩, b⟩, hP, fun k hg hx => hk k (.inl hg) hx⟩
theorem LB.mop (h : LB base g r lb w0 G S S2 w) (hc : ∀ F, MemB base F w g S → base ≤ w.heap.size → Calls Try.prog f args w (OpEnds base F g S' v w)) : Calls Try.prog f args w (LE base g r lb w0 G S' S2 v (fun _ => True) (fun _ => False) w) :=
  h.op (fun _ h => h.elim) fun _ _ hG => (hG.op hc).mono fun _ _ hh => ⟨hh.1, hh.2.1, trivial, fun k hk _ => hh.2.2 k hk⟩
/-- a call of the document's -/
theorem LB.opR (h : LB base g r lb w0 G S' S w) (hX : ∀ k, X k → G k)
    (hc : ∀ F, RMem base F w r lb S → base ≤ w.heap.size → (∀ k, G k → ¬ F k) → Calls Try.prog f args w fun e w' => e = .returned v ∧ P w' ∧ RTX base F X w r lb' S2 w') :
    Calls Try.prog f args w (LE base g r lb' w0 G S' S2 v P X w) := by
  have hle := h.le
  obtain ⟨Fm, Fq, h1, h2, h3, h4, h5⟩ := h.out
  refine (hc Fq h2 hle fun k hk => (h4 k hk).2.2.1).mono ?_
  rintro e w1 ⟨rfl, hP, ht⟩
  obtain ⟨F', m, hs, hf⟩ := ht.out
  have hx : ∀ k, Fm k → ¬ (Fq k ∨ X k) := fun k hk => fun hq => hq.elim (h3 k hk) fun hx => (h4 k (hX k hx)).2.1 hk
  refine ⟨rfl, ⟨Fm, F', h1.fr hf hx, m, fun k hk hk' => ?_, fun k hk => ⟨Nat.lt_of_lt_of_le (h4 k hk).1 hf.size, (h4 k hk).2.1, fun hF => ?_, (h4 k hk).2.2.2⟩, h5.trans (hf.below (fun k hk => hk.elim (fun h => (h2.lt k h).1) fun h => (h4 k (hX k h)).2.2.2) hle)⟩, hP, fun k hk hnx => hf.block k (h4 k hk).1 fun hq => hq.elim (h4 k hk).2.2.1 hnx⟩
  · rcases hs k hk' with h | h
    · exact h3 k hk h
    · have := (h1.lt k hk).2; omega
  · rcases hs k hF with h | h
    · exact (h4 k hk).2.2.1 h
    · have := (h4 k hk).1; omega
theorem LB.rop (h : LB base g r lb w0 G S' S w) (hc : ∀ F, RMem base F w r lb S → base ≤ w.heap.size → Calls Try.prog f args w (ROpE base F r lb' S2 v w)) : Calls Try.prog f args w (LE base g r lb' w0 G S' S2 v (fun _ => True) (fun _ => False) w) :=
  h.opR (fun _ h => h.elim) fun F h1 h2 _ => (hc F h1 h2).mono fun _ _ hh => ⟨hh.1, trivial, RTX.of hh.2⟩
end
end Go.Proofs.Ytkbobgblohohcaa

/- A range over a function whose iterator has cells of its own: a law over frames. -/
import Derived.RangeFuncNested
import Derived.RangeFuncLeaves
import Derived.Test.YtecppnkfnppmoaaMm
namespace Go.Mm
open Go.RowKit
/-- blocks from B on, k of them -/
def Gk (B k : Nat) (g : Nat) : Prop := B ≤ g ∧ g < B + k
/-- those of them that were there are as they were -/
structure Hold (B k : Nat) (w w' : World) : Prop where
  size : w.heap.size ≤ w'.heap.size
  same : ∀ g, Gk B k g → g < w.heap.size → w'.heap[g]? = w.heap[g]?
theorem Hold.refl (B k : Nat) (w : World) : Hold B k w w := ⟨Nat.le_refl _, fun _ _ _ => rfl⟩
theorem Hold.trans {B k : Nat} {w w1 w2 : World} (h : Hold B k w w1) (h' : Hold B k w1 w2) : Hold B k w w2 :=
  ⟨Nat.le_trans h.size h'.size, fun g hg hl => (h'.same g hg (Nat.lt_of_lt_of_le hl h.size)).trans (h.same g hg hl)⟩
theorem Hold.of_fr {B k : Nat} {S : Nat → Prop} {w w' : World} (h : Fr S w w') (hS : ∀ g, Gk B k g → ¬ S g) : Hold B k w w' := ⟨h.size, fun g hg hl => h.block g hl (hS g hg)⟩
theorem Fr.putObj {S : Nat → Prop} (w : World) (l : Nat) (o : Obj) (h : S l) : Fr S w (w.putObj l o) :=
  ⟨rfl, rfl, rfl, by rw [World.putObj_size]; exact Nat.le_refl _, fun g _ hg => World.putObj_heap_other (fun e => hg (e ▸ h))⟩
/-- AN ITERATOR's WORD: k blocks of its own, laid first of all; what it hands in round after round, x behind pre, with V at the time; it leaves alone whatever else there is. -/
def Iter (P : Program) (gf : Nat) (lb : Array Value) (k : Nat) {A : Type} (enc : A → Array Value) (V : Nat → List A → A → World → Prop) (S : List A → Prop) (w : World) : Prop :=
  ∀ (l : Nat) (J Jx : List A → World → Prop) (W : World) (N : Nat), Fr (fun _ => False) w W → (∀ s W1, J s W1 → s.length ≤ N) →
    (∀ s W1 W2, J s W1 → Fr (Gk W.heap.size k) W1 W2 → J s W2) → (∀ s W1 W2, Jx s W1 → Fr (Gk W.heap.size k) W1 W2 → Jx s W2) →
    (∀ pre x W1, J pre W1 → V W.heap.size pre x W1 → YieldAt Fence.wide 0 P l (enc x) W1 fun e W' =>
      (e = .returned (.bool true) ∧ J (pre ++ [x]) W' ∧ Hold W.heap.size k W1 W') ∨ (e = .returned (.bool false) ∧ Jx (pre ++ [x]) W' ∧ Hold W.heap.size k W1 W')) →
    J [] W → CallsIn Fence.wide 0 P gf (#[.func (.yield l) #[] #[]] ++ lb) W fun e W' => (∃ v, e = .returned v) ∧ ((∃ xs, S xs ∧ J xs W') ∨ ∃ pre, Jx pre W')
/-- how many rounds may still come, by the world: of all that may have come the most -/
theorem left_ex {A : Type} (R : List A → World → Prop) (N : Nat) :
    ∃ left : World → Nat, ∀ W, (∃ pre, R pre W) → (∃ pre, R pre W ∧ left W = N - pre.length) ∧ ∀ pre, R pre W → left W ≤ N - pre.length := by
  refine (Classical.skolem (p := fun (W : World) (m : Nat) => (∃ pre, R pre W) → (∃ pre, R pre W ∧ m = N - pre.length) ∧ ∀ pre, R pre W → m ≤ N - pre.length)).1 fun W => ?_
  by_cases h : ∃ pre, R pre W
  · have key : ∀ m, (∃ pre, R pre W ∧ N - pre.length ≤ m) → ∃ pre, R pre W ∧ ∀ pre', R pre' W → N - pre.length ≤ N - pre'.length := by
      intro m
      induction m with
      | zero => exact fun ⟨pre, h1, h2⟩ => ⟨pre, h1, fun _ _ => by omega⟩
      | succ m ih =>
        intro ⟨pre, h1, h2⟩
        by_cases hb : ∃ pre', R pre' W ∧ N - pre'.length ≤ m
        · exact ih hb
        · refine ⟨pre, h1, fun pre' h' => ?_⟩
          rcases Nat.lt_or_ge m (N - pre'.length) with h3 | h3
          · omega
          · exact absurd ⟨pre', h', h3⟩ hb
    obtain ⟨pre, h0⟩ := h
    obtain ⟨pre, h1, h2⟩ := key _ ⟨pre, h0, Nat.le_refl _⟩
    exact ⟨N - pre.length, fun _ => ⟨⟨pre, h1, rfl⟩, h2⟩⟩
  · exact ⟨0, fun h' => absurd h' h⟩
/-- how a round's body may be left -/
def iterPost {A : Type} (B k : Nat) (I : List A → World → Prop) (Ix : Code → List A → World → Prop) (xs : List A) (W : World) : Exit → Act → World → Prop
  | .normal, _, W' => Hold B k W W' ∧ I xs W'
  | .ret, _, W' => Hold B k W W' ∧ Ix .ret xs W'
  | .exit id, _, W' => Hold B k W W' ∧ Ix (.exit id) xs W'
  | .goto t, _, W' => Hold B k W W' ∧ Ix (.goto t) xs W'
  | .panic _, _, _ => False
  | .outgrown, _, _ => False
/-- THE STATEMENT over such an iterator -/
theorem wpIn_iter {P : Program} {g : Operand} {ps : Array Tmp} {assign body : Code} {Q : Exit → Act → World → Prop} {a : Act} {w : World} {gf : Nat} {lb : Array Value} {k : Nat} {A : Type} {enc : A → Array Value} {V : Nat → List A → A → World → Prop} {S : List A → Prop}
    (hg : a.eval g = .func (.func gf) #[] lb) (eg : ∀ args w, (callFunc gf args).run P w = .ok (.enter gf args) w) (hps : ∀ x, (enc x).size = ps.size) (hseq : Iter P gf lb k enc V S w)
    (hV : ∀ B pre x W W', V B pre x W → W.heap.size ≤ W'.heap.size → (∀ g, B ≤ g → g < W.heap.size → W'.heap[g]? = W.heap[g]?) → V B pre x W')
    (I : List A → World → Prop) (Ix : Code → List A → World → Prop)
    (hI : ∀ s W W', I s W → Fr (Gk w.heap.size (2 + k)) W W' → I s W') (hIx : ∀ c s W W', Ix c s W → Fr (Gk w.heap.size (2 + k)) W W' → Ix c s W')
    (h0 : I [] w) (N : Nat) (hN : ∀ s W, I s W → s.length ≤ N) (a₁ : A → Act)
    (hassign : ∀ (l : Nat) (x : A) (W : World) (K : Act → World → Prop), K (a₁ x) W →
      assign.wpIn (Fence.wide.inRound l) 0 P (Exit.then K (fun _ _ _ => False)) { tmps := (ps.zip (enc x)).foldl (fun t (p, v) => t.setIfInBounds p v) a.tmps, defers := [] } W)
    (hbody : ∀ pre x W, I pre W → V (w.heap.size + 2) pre x W → w.heap.size + 2 ≤ W.heap.size → body.wpIn (Fence.wide.inRound (w.heap.size + 1)) 0 P (iterPost w.heap.size (2 + k) I Ix (pre ++ [x]) W) (a₁ x) W)
    (hdone : ∀ xs W, S xs → I xs W → W.heap[w.heap.size]? = some (.deferred (some [])) → Q .normal { a with defers := { target := .collected w.heap.size, args := #[] } :: a.defers } W)
    (hstop : ∀ c pre W, Ix c pre W → W.heap[w.heap.size]? = some (.deferred (some [])) → c.wpIn Fence.wide 0 P Q { a with defers := { target := .collected w.heap.size, args := #[] } :: a.defers } W) :
    (Code.rangeFunc g ps assign body).wpIn Fence.wide 0 P Q a w := by
  refine wpIn_rangeFunc fun fn _ => ?_
  have hro : Fence.wide.round = none := rfl
  rw [hro]
  let rec' : LoopState → Option Code → Loop := fun st pe => { state := st, pending := pe, fn := fn, tmps := a.tmps, params := ps, assign := assign, body := body, defers := w.heap.size }
  obtain ⟨rc, hrc⟩ : ∃ rc, rc = rec' := ⟨_, rfl⟩
  obtain ⟨W1, hW1⟩ : ∃ W1, (w.alloc (.deferred (some []))).alloc (.loop (rc .ready none)) = W1 := ⟨_, rfl⟩
  have s1 : W1.heap.size = w.heap.size + 2 := by rw [← hW1]; simp
  have l1 : W1.heap[w.heap.size + 1]? = some (.loop (rc .ready none)) := by
    rw [← hW1]
    have h := World.alloc_heap_new (w.alloc (.deferred (some []))) (.loop (rc .ready none))
    rwa [World.size_alloc] at h
  have fa : Fr (fun _ => False) w (w.alloc (.deferred (some []))) := Fr.alloc _ w _
  have fb : Fr (fun _ => False) (w.alloc (.deferred (some []))) W1 := hW1 ▸ Fr.alloc _ _ _
  have f1 : Fr (fun _ => False) w W1 := fa.trans fb fun _ _ h => h
  have d1 : W1.heap[w.heap.size]? = some (.deferred (some [])) := (fb.block _ (by simp) fun h => h).trans (World.alloc_heap_new w _)
  have hin : ∀ g, Gk (w.heap.size + 2) k g → Gk w.heap.size (2 + k) g := fun g h => ⟨by have := h.1; omega, by have := h.2; omega⟩
  have hl : Gk w.heap.size (2 + k) (w.heap.size + 1) := ⟨by omega, by omega⟩
  have hd : Gk w.heap.size (2 + k) w.heap.size := ⟨by omega, by omega⟩
  have keep : ∀ {X Y : World} {b : Nat} {o : Obj}, Fr (Gk W1.heap.size k) X Y → X.heap[b]? = some o → b < w.heap.size + 2 → Y.heap[b]? = some o := fun {X Y b o} hf ho hb =>
    (hf.block b (Array.getElem?_eq_some_iff.1 ho).1 fun h => by have := h.1; omega).trans ho
  have mem : ∀ {X Y : World}, Fr (Gk W1.heap.size k) X Y → Fr (Gk w.heap.size (2 + k)) X Y := fun hf => hf.mono fun g h => hin g (s1 ▸ h)
  refine ⟨w.heap.size + 1, [{ target := .collected w.heap.size, args := #[] }], W1, { target := .fn (.func gf) lb, args := #[.func (.yield (w.heap.size + 1)) #[] #[]] }, W1, gf, #[.func (.yield (w.heap.size + 1)) #[] #[]] ++ lb, W1, ?_, ?_, fun _ _ => trivial, ?_, fun h => by simp [Fence.wide] at h, ?_⟩
  · rw [← hW1, hrc]; exact run_enterLoop_outer _ _ _ _ _
  · simp only [resolve, hg]
    simp [go_sem]
  · simp [invoke, go_sem, eg]
  refine (hseq (w.heap.size + 1)
    (fun pre W => I pre W ∧ W.heap[w.heap.size + 1]? = some (.loop (rc .ready none)) ∧ W.heap[w.heap.size]? = some (.deferred (some [])))
    (fun pre W => ∃ c, Ix c pre W ∧ W.heap[w.heap.size + 1]? = some (.loop (rc .done (some c))) ∧ W.heap[w.heap.size]? = some (.deferred (some [])))
    W1 N f1 (fun s X h => hN s X h.1) (fun s X Y h hf => ⟨hI s X Y h.1 (mem hf), keep hf h.2.1 (by omega), keep hf h.2.2 (by omega)⟩)
    (fun s X Y ⟨c, h, hl, hk⟩ hf => ⟨c, hIx c s X Y h (mem hf), keep hf hl (by omega), keep hf hk (by omega)⟩) ?_
    ⟨hI [] w W1 h0 (f1.mono fun _ h => h.elim), l1, d1⟩).mono ?_
  · rintro pre x W ⟨hi, hlW, hdW⟩ hv
    have hlt : w.heap.size + 1 < W.heap.size := (Array.getElem?_eq_some_iff.1 hlW).1
    have hy := run_yield (P := P) (args := enc x) hlW (by rw [hrc]; exact hps x)
    rw [hrc] at hy
    refine ⟨fn, _, assign, body, hy, roundIn_of_wpIn trivial (hassign _ x W _ ⟨_, run_beginRound hlW (by rw [hrc]), ?_⟩)⟩
    obtain ⟨W2, hW2⟩ : ∃ W2, W.putObj (w.heap.size + 1) (.loop { rc .ready none with state := .busy }) = W2 := ⟨_, rfl⟩
    rw [hW2]
    have s2 : W2.heap.size = W.heap.size := by rw [← hW2]; exact World.putObj_size
    have l2 : W2.heap[w.heap.size + 1]? = some (.loop (rc .busy none)) := by rw [← hW2, World.putObj_heap_same hlt, hrc]
    have o2 : ∀ b, b ≠ w.heap.size + 1 → W2.heap[b]? = W.heap[b]? := fun b hb => by rw [← hW2]; exact World.putObj_heap_other hb
    have fw2 : Fr (Gk w.heap.size (2 + k)) W W2 := hW2 ▸ Fr.putObj W _ _ hl
    refine wpIn_mono (hbody pre x W2 (hI _ _ _ hi fw2) (by rw [← s1]; exact hV _ _ _ _ _ hv (by rw [s2]; exact Nat.le_refl _) fun b hb _ => o2 b (by omega)) (by omega)) ?_
    have fin : ∀ (jump : Option Code) (W3 : World), Hold w.heap.size (2 + k) W2 W3 → ∃ W4, (Instr.endRound (w.heap.size + 1) jump).run P W3 = .ok (.bool jump.isNone) W4 ∧ Fr (Gk w.heap.size (2 + k)) W3 W4 ∧
        W4.heap[w.heap.size + 1]? = some (.loop (rc (if jump.isNone then .ready else .done) jump)) ∧ W4.heap[w.heap.size]? = some (.deferred (some [])) ∧ Hold W1.heap.size k W W4 := by
      intro jump W3 h3
      have l3 : W3.heap[w.heap.size + 1]? = some (.loop (rc .busy none)) := (h3.same _ hl (by omega)).trans l2
      have d3 : W3.heap[w.heap.size]? = some (.deferred (some [])) := ((h3.same _ hd (by omega)).trans (o2 _ (by omega))).trans hdW
      have hr := run_endRound (P := P) jump l3
      refine ⟨_, hr, Fr.putObj _ _ _ hl, ?_, (World.putObj_heap_other (by omega)).trans d3, ⟨by rw [World.putObj_size]; have := h3.size; omega, fun b hb hbl => ?_⟩⟩
      · rw [World.putObj_heap_same (Array.getElem?_eq_some_iff.1 l3).1, hrc]
      · have h1 := hb.1
        rw [World.putObj_heap_other (by omega), h3.same b (hin b (s1 ▸ hb)) (by omega), o2 b (by omega)]
    rintro e a3 W3 hp
    cases e with
    | normal =>
      obtain ⟨h3, i3⟩ := hp
      obtain ⟨W4, hr, f4, l4, d4, k4⟩ := fin none W3 h3
      exact ⟨_, W4, hr, .inl ⟨rfl, ⟨hI _ _ _ i3 f4, l4, d4⟩, k4⟩⟩
    | ret =>
      obtain ⟨h3, i3⟩ := hp
      obtain ⟨W4, hr, f4, l4, d4, k4⟩ := fin (some .ret) W3 h3
      exact ⟨_, W4, hr, .inr ⟨rfl, ⟨.ret, hIx _ _ _ _ i3 f4, l4, d4⟩, k4⟩⟩
    | exit id =>
      obtain ⟨h3, i3⟩ := hp
      obtain ⟨W4, hr, f4, l4, d4, k4⟩ := fin (some (.exit id)) W3 h3
      exact ⟨_, W4, hr, .inr ⟨rfl, ⟨.exit id, hIx _ _ _ _ i3 f4, l4, d4⟩, k4⟩⟩
    | goto t =>
      obtain ⟨h3, i3⟩ := hp
      obtain ⟨W4, hr, f4, l4, d4, k4⟩ := fin (some (.goto t)) W3 h3
      exact ⟨_, W4, hr, .inr ⟨rfl, ⟨.goto t, hIx _ _ _ _ i3 f4, l4, d4⟩, k4⟩⟩
    | panic c => exact hp.elim
    | outgrown => exact hp.elim
  · rintro e W ⟨⟨v, rfl⟩, ⟨xs, hs, hi, hlW, hdW⟩ | ⟨pre, c, hx, hlW, hdW⟩⟩
    · refine ⟨none, W.putObj (w.heap.size + 1) (.loop { rc .ready none with state := .exhausted }), ?_, ?_⟩
      · have := run_endLoop (P := P) hlW (by rw [hrc]; intro h; cases h)
        rw [hrc] at this ⊢
        exact this
      · exact hdone xs _ hs (hI _ _ _ hi (Fr.putObj _ _ _ hl)) ((World.putObj_heap_other (by omega)).trans hdW)
    · refine ⟨some c, W.putObj (w.heap.size + 1) (.loop { rc .done (some c) with state := .exhausted }), ?_, ?_⟩
      · have := run_endLoop (P := P) hlW (by rw [hrc]; intro h; cases h)
        rw [hrc] at this ⊢
        exact this
      · exact hstop c pre _ (hIx _ _ _ _ hx (Fr.putObj _ _ _ hl)) ((World.putObj_heap_other (by omega)).trans hdW)
end Go.Mm

/- Walks: a memory, with what is kept beside it. -/
import Derived.Test.YtkbobgblohohcaaSum
namespace Go.Proofs.Ytkbobgblohohcaa
open Go.RowKit Go.Mm Go.Cells
/-- a memory, and what holds beside it: of the blocks G alone -/
structure Has (base g : Nat) (w0 : World) (K : World → Prop) (S : Cm) (w : World) : Prop where mk ::
  out : ∃ F G : Nat → Prop, MemB base F w g S ∧ Below base w0 w ∧ (∀ k, G k → k < w.heap.size ∧ ¬ F k) ∧ ∀ w1 : World, w.heap.size ≤ w1.heap.size → (∀ k, G k → w1.heap[k]? = w.heap[k]?) → K w1
section
variable {base g : Nat} {w0 w w' : World} {K : World → Prop} {S S' : Cm}
theorem Has.made {x : Int} {n : Nat} {F : Nat → Prop} {w1 : World} (h : Hid ((n : Int) = 1 + x % 64 ∧ MemB w.heap.size F w1 g (Cm.made n) ∧ Below w.heap.size w w1)) : Has w.heap.size g w (fun _ => True) (Cm.made n) w1 :=
  ⟨F, fun _ => False, h.out.2.1, h.out.2.2, fun _ h => h.elim, fun _ _ _ => trivial⟩
theorem Has.keeps (h : Has base g w0 K S w) : K w := by
  obtain ⟨_, _, _, _, _, h⟩ := h.out
  exact h w (Nat.le_refl _) fun _ _ => rfl
theorem Has.below (h : Has base g w0 K S w) : Below base w0 w := by
  obtain ⟨_, _, _, h, _⟩ := h.out
  exact h
theorem Has.le (h : Has base g w0 K S w) : base ≤ w.heap.size := by
  obtain ⟨_, _, h, _⟩ := h.out
  have := h.lt g h.fg
  omega
theorem Has.wl (h : Has base g w0 K S w) : S.ws.length ≤ 65536 := by
  obtain ⟨_, _, h, _⟩ := h.out
  exact h.wl
theorem Has.weak {K' : World → Prop} (h : Has base g w0 K S w) (hk : ∀ w, K w → K' w) : Has base g w0 K' S w := by
  obtain ⟨F, G, h1, h2, h3, h4⟩ := h.out
  exact ⟨F, G, h1, h2, h3, fun w1 a b => hk _ (h4 w1 a b)⟩
theorem Has.turn {F G F' : Nat → Prop} (h1 : MemB base F w g S) (h2 : Below base w0 w) (h3 : ∀ k, G k → k < w.heap.size ∧ ¬ F k) (h4 : ∀ w1 : World, w.heap.size ≤ w1.heap.size → (∀ k, G k → w1.heap[k]? = w.heap[k]?) → K w1)
    (m : MemB base F' w' g S') (hs : ∀ k, F' k → F k ∨ w.heap.size ≤ k) (hf : Fr F w w') : Has base g w0 K S' w' := by
  have hle : base ≤ w.heap.size := by have := h1.lt g h1.fg; omega
  refine ⟨F', G, m, h2.trans (hf.below (fun k hk => (h1.lt k hk).1) hle), fun k hk => ⟨Nat.lt_of_lt_of_le (h3 k hk).1 hf.size, fun hF => ?_⟩, fun w1 hw hk => h4 w1 (Nat.le_trans hf.size hw) fun k hG => (hk k hG).trans (hf.block k (h3 k hG).1 (h3 k hG).2)⟩
  rcases hs k hF with h | h
  · exact (h3 k hk).2 h
  · have := (h3 k hk).1; omega
/-- an operation's end -/
def HE (base g : Nat) (w0 : World) (K : World → Prop) (S' : Cm) (r : Value) (e : Ending) (w' : World) : Prop := e = .returned r ∧ Has base g w0 K S' w'
theorem Has.op (h : Has base g w0 K S w) {f : FuncId} {args : Array Value} {r : Value} (hc : ∀ F, MemB base F w g S → base ≤ w.heap.size → Calls Try.prog f args w (OpEnds base F g S' r w)) : Calls Try.prog f args w (HE base g w0 K S' r) := by
  obtain ⟨F, G, h1, h2, h3, h4⟩ := h.out
  refine (hc F h1 h.le).mono ?_
  rintro e w1 ⟨rfl, ht⟩
  obtain ⟨F', m, hs, hf⟩ := ht.out
  exact ⟨rfl, Has.turn h1 h2 h3 h4 m hs hf⟩
theorem Has.load (h : Has base g w0 K S w) (addr : Int) (hb : S.bad ≤ 4611686018427387904) (hn : (S.tr.length + 1) * 40 ≤ 140737488355328) :
    Calls Try.prog 21 #[.pointer (some ⟨g, 0, none⟩), .int .i64 addr] w (HE base g w0 K (S.load addr) (.tuple #[.int .i64 (S.look addr).1, .int .i64 (S.look addr).2])) :=
  h.op fun F h1 h2 => load_any base g F S addr w h1 h2 hb hn
theorem Has.store (h : Has base g w0 K S w) (addr y : Int) (hb : S.bad ≤ 4611686018427387904) (hn : (S.tr.length + 1) * 40 ≤ 140737488355328) :
    Calls Try.prog 20 #[.pointer (some ⟨g, 0, none⟩), .int .i64 addr, .int .i64 y] w (HE base g w0 K (S.store addr y) (.int .i64 (S.look addr).2)) :=
  h.op fun F h1 h2 => store_any base g F S addr w y h1 h2 hb hn
theorem Has.add (h : Has base g w0 K S w) (addr y : Int) (hb : S.bad ≤ 4611686018427387904) (hn : (S.tr.length + 1) * 40 ≤ 140737488355328) :
    Calls Try.prog 24 #[.pointer (some ⟨g, 0, none⟩), .int .i64 addr, .int .i64 y] w (HE base g w0 K (S.add addr y) (.tuple #[.int .i64 (S.look addr).1, .int .i64 (S.look addr).2])) :=
  h.op fun F h1 h2 => add_any base g F S addr w y h1 h2 hb hn
theorem Has.swap (h : Has base g w0 K S w) (addr old y : Int) (hb : S.bad ≤ 4611686018427387904) (hn : (S.tr.length + 1) * 40 ≤ 140737488355328) :
    Calls Try.prog 25 #[.pointer (some ⟨g, 0, none⟩), .int .i64 addr, .int .i64 old, .int .i64 y] w (HE base g w0 K (S.swap addr old y) (.tuple #[.int .i64 (S.look addr).1, .bool (S.swaps addr old)])) :=
  h.op fun F h1 h2 => swap_any base g F S addr w old y h1 h2 hb hn
theorem Has.poison (h : Has base g w0 K S w) (addr n : Int) (hn : n ≤ 9223372036854775807) :
    Calls Try.prog 29 #[.pointer (some ⟨g, 0, none⟩), .int .i64 addr, .int .i64 n] w (HE base g w0 K (S.fill addr n poison) (.int .i64 (S.code addr n))) :=
  h.op fun F h1 _ => (poison_any base g F S addr n w h1 hn).mono fun _ _ he => ⟨he.1, ⟨F, he.2.1, fun _ h => .inl h, he.2.2⟩⟩
theorem Has.clear (h : Has base g w0 K S w) (addr n : Int) (hn : n ≤ 9223372036854775807) :
    Calls Try.prog 28 #[.pointer (some ⟨g, 0, none⟩), .int .i64 addr, .int .i64 n] w (HE base g w0 K (S.fill addr n 0) (.int .i64 (S.code addr n))) :=
  h.op fun F h1 _ => (clear_any base g F S addr n w h1 hn).mono fun _ _ he => ⟨he.1, ⟨F, he.2.1, fun _ h => .inl h, he.2.2⟩⟩
theorem Has.bad (h : Has base g w0 K S w) {b : Nat} (hb : S.bad = b) : Calls Try.prog 30 #[.pointer (some ⟨g, 0, none⟩)] w fun e w' => e = .returned (.int .i64 (b : Int)) ∧ w = w' := by
  obtain ⟨F, _, h1, _⟩ := h.out
  rw [← hb]
  exact bad_any base g F S w h1
theorem rd_of {base e : Nat} {sz n c : Nat} {A : Option Addr} {xs : List Value} {w w1 : World} (h : w.ownsRow base e sz (.slice A n c) n xs) (hs : w.heap.size ≤ w1.heap.size) (hk : ∀ k, (Value.slice A n c).ownBlock = some k → w1.heap[k]? = w.heap[k]?) : Rd w1 A n sz xs := by
  obtain ⟨_, _, hv, _, h4, h5⟩ := own_slice h
  injection hv with e1 _ e3
  subst e1
  exact h5.keep hs fun ad hA _ => hk ad.block (h4 ad hA)
/-- a row of its own, laid beside -/
theorem Has.row (h : Has base g w0 K S w) {e sz n c : Nat} {A : Option Addr} {xs : List Value} (ho : w'.ownsRow w.heap.size e sz (.slice A n c) n xs) (hb : Below w.heap.size w w') : Has base g w0 (fun w => K w ∧ Rd w A n sz xs) S w' := by
  obtain ⟨F, G, h1, h2, h3, h4⟩ := h.out
  refine ⟨F, fun k => G k ∨ (Value.slice A n c).ownBlock = some k, h1.below hb, h2.trans (hb.mono h.le), ?_, fun w1 hw hk => ⟨h4 w1 (Nat.le_trans hb.size hw) fun k hG => (hk k (.inl hG)).trans (hb.block k (h3 k hG).1), rd_of ho hw fun k hk' => hk k (.inr hk')⟩⟩
  rintro k (hG | hG)
  · exact ⟨Nat.lt_of_lt_of_le (h3 k hG).1 hb.size, (h3 k hG).2⟩
  · have := own_lt ho hG
    exact ⟨this.2, fun hF => by have := (h1.lt k hF).2; omega⟩
def RE (base g : Nat) (w0 : World) (K : World → Prop) (S' : Cm) (l : List Int) (c : Int) (e : Ending) (w' : World) : Prop := ∃ A m cp, e = .returned (.tuple #[.slice A m cp, .int .i64 c]) ∧ m ≤ cp ∧ Hid (l.length = m ∧ Has base g w0 (fun w => K w ∧ Rd w A m 1 (iL l)) S' w')
theorem Has.words (h : Has base g w0 K S w) (addr n : Int) (hn : n ≤ 9223372036854775807) : Calls Try.prog 26 #[.pointer (some ⟨g, 0, none⟩), .int .i64 addr, .int .i64 n] w (RE base g w0 K S (S.words addr n) (S.code addr n)) := by
  obtain ⟨F, _, h1, _⟩ := h.out
  refine (words_any base g F S addr n w h1 hn).mono ?_
  rintro e w1 ⟨A, m, cp, rfl, hc, O⟩
  exact ⟨A, m, cp, rfl, hc, O.out.1, h.row O.out.2.1 O.out.2.2⟩
def TE (base g : Nat) (w0 : World) (K : World → Prop) (S' : Cm) (n : Nat) (e : Ending) (w' : World) : Prop := ∃ A cp, e = .returned (.slice A n cp) ∧ n ≤ cp ∧ Hid (Has base g w0 (fun w => K w ∧ Rd w A n 5 (S'.tr.flatMap fAcc)) S' w')
theorem Has.trace (h : Has base g w0 K S w) {n : Nat} (hl : S.tr.length = n) (hn : n * 40 ≤ 140737488355328) : Calls Try.prog 27 #[.pointer (some ⟨g, 0, none⟩)] w (TE base g w0 K S n) := by
  obtain ⟨F, _, h1, _⟩ := h.out
  refine (trace_any base g F S w h1 (by omega)).mono ?_
  rintro e w1 ⟨A, m, cp, rfl, hc, O⟩
  obtain rfl : m = n := by rw [← hl]; exact O.out.1.symm
  exact ⟨A, cp, rfl, hc, h.row O.out.2.1 O.out.2.2⟩
end
/-- all words filled so far: 100 and on -/
structure Fill (n k : Nat) (S : Cm) : Prop where
  len : S.ws.length = n
  lo : ∀ j, j < k → S.ws[j]? = some (100 + (j : Int))
  hi : ∀ j, k ≤ j → j < n → S.ws[j]? = some 0
  tr : S.tr.length = 3 + k
  bad : S.bad = 0
theorem Fill.made (n : Nat) : Fill n 0 (Cm.made n) := ⟨by simp [Cm.made], fun j h => by omega, fun j _ h => by simp [Cm.made, h], rfl, rfl⟩
theorem Fill.step {n k : Nat} {S : Cm} (h : Fill n k S) (hk : k < n) : (S.look k).2 = 0 ∧ Fill n (k + 1) (S.store k (100 + (k : Int))) := by
  have hx := h.hi k (Nat.le_refl _) hk
  obtain ⟨s1, s2, s3⟩ := store_ws (y := 100 + (k : Int)) hx (by decide)
  refine ⟨by rw [(look_good hx (by decide)).1], by rw [s1, List.length_set]; exact h.len, fun j hj => ?_, fun j hj hn => ?_, by rw [s3, h.tr]; omega, by rw [s2, h.bad]⟩
  · rw [s1, List.getElem?_set]
    by_cases e : k = j
    · subst e; rw [if_pos rfl, if_pos (by rw [h.len]; exact hk)]
    · rw [if_neg e]; exact h.lo j (by omega)
  · rw [s1, List.getElem?_set, if_neg (by omega)]
    exact h.hi j (by omega) hn
end Go.Proofs.Ytkbobgblohohcaa

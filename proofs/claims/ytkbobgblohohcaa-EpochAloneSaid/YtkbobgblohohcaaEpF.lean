/- Walks: slots, a grace period and a list of one's own: the calls; the law EpochAlone. -/
import Derived.Test.YtkbobgblohohcaaEpE
import Derived.Deep.CutRange
namespace Go.Proofs.Ytkbobgblohohcaa
open Go.RowKit Go.Mm Go.Cells
section
variable {base g n sl gr xb slot : Nat} {w0 w w1 w' : World} {mark at_ p q : Int} {v v1 : Value} {l ys : List Acc} {S S' : Cm}
def EwE (base g : Nat) (w0 : World) (n sl gr : Nat) (mark at_ : Int) (v : Value) (l : List Acc) (S : Cm) (r : Value) (e : Ending) (w' : World) : Prop := e = .returned r ∧ EW base g w0 n sl gr mark at_ v l S w'
theorem ew_first (h : EW base g w0 n sl gr mark (-1) v l S w) (hb : S.bad ≤ 4611686018427387904) (hn : (S.tr.length + 1) * 40 ≤ 140737488355328) : Calls Try.prog 59 #[.pointer (some ⟨gr, 0, none⟩)] w (EwE base g w0 n sl gr (wrap64 ((S.look (n : Int)).1 + 1)) 0 v l (S.add (n : Int) 1) (.bool false)) := by
  obtain ⟨G, h1, ⟨g1, g2, g3, g4⟩, h2, h3, h4⟩ := h.out
  refine (gr_first h1 sl n 0 n gr mark g1 g2 (g4 _ g2) h2 h3 hb hn).mono ?_
  rintro e w' ⟨rfl, c1, c2, c3⟩
  exact ⟨rfl, G, c1, ⟨g1, g2, g3, g4⟩, h2.keep (c3 sl g1 (blk_ne h2 h3 (by decide))), c2, own_keep h4 fun b hb => c3 b (g3 b hb) fun e => own_ne h4 h3 (by decide) (e ▸ hb)⟩
theorem ew_look (h : EW base g w0 n sl gr mark at_ v l S w) {k : Nat} (ha : at_ = (k : Int)) {x : Int} (hx : (S.look (k : Int)).1 = x) (hg : goes mark x = true) (hk : k < n) (hn16 : n ≤ 16) (hb : S.bad ≤ 4611686018427387904) (hn : (S.tr.length + 1) * 40 ≤ 140737488355328) : Calls Try.prog 59 #[.pointer (some ⟨gr, 0, none⟩)] w (EwE base g w0 n sl gr mark ((k + 1 : Nat) : Int) v l (S.load (k : Int)) (.bool (grT true k n))) := by
  subst ha
  obtain ⟨G, h1, ⟨g1, g2, g3, g4⟩, h2, h3, h4⟩ := h.out
  have z : ((0 : Nat) : Int) + (k : Int) = (k : Int) := by omega
  have C := gr_look h1 sl n 0 n gr k mark true (by rw [z, hx]; exact hg) hk g1 g2 (g4 _ g2) h2 h3 (by decide) hn16 hb hn
  rw [z] at C
  refine C.mono ?_
  rintro e w' ⟨rfl, c1, c2, c3⟩
  exact ⟨rfl, G, c1, ⟨g1, g2, g3, g4⟩, h2.keep (c3 sl g1 (blk_ne h2 h3 (by decide))), c2, own_keep h4 fun b hb => c3 b (g3 b hb) fun e => own_ne h4 h3 (by decide) (e ▸ hb)⟩
theorem ew_over (h : EW base g w0 n sl gr mark at_ v l S w) (ha : at_ = (n : Int)) : Calls Try.prog 59 #[.pointer (some ⟨gr, 0, none⟩)] w (EwE base g w0 n sl gr mark at_ v l S (.bool true)) := by
  subst ha
  obtain ⟨G, h1, ⟨g1, g2, g3, g4⟩, h2, h3, h4⟩ := h.out
  refine (gr_over h1 sl n 0 n gr mark h2 h3).mono ?_
  rintro e w' ⟨rfl, c1, c2, c3⟩
  exact ⟨rfl, G, c1, ⟨g1, g2, g3, g4⟩, h2.keep (c3 sl g1 (blk_ne h2 h3 (by decide))), c2, own_keep h4 fun b hb => c3 b (g3 b hb) fun e => own_ne h4 h3 (by decide) (e ▸ hb)⟩
theorem ew_at (h : EW base g w0 n sl gr mark at_ v l S w) {k : Nat} (ha : at_ = (k : Int)) (hk : k < n) : Calls Try.prog 62 #[.pointer (some ⟨gr, 0, none⟩)] w (EwE base g w0 n sl gr mark at_ v l S (.int .i64 (k : Int))) := by
  subst ha
  obtain ⟨G, h1, ⟨g1, g2, g3, g4⟩, h2, h3, h4⟩ := h.out
  refine (gat_any sl n 0 n gr mark (k : Int) (k : Int) (if_neg (by omega)) h2 h3).mono ?_
  rintro e w' ⟨rfl, d, rfl⟩
  exact ⟨rfl, h.after (below_drew18 w d)⟩
where
  below_drew18 (w : World) (d : Nat) : Below w.heap.size w (w.drewN d) := ⟨rfl, rfl, rfl, Nat.le_refl _, fun _ _ => rfl⟩
theorem ew_ready (h : EW base g w0 n sl gr mark at_ v l S w) {k : Nat} (ha : at_ = (k : Int)) {x : Int} (hx : S.ws[k]? = some x) (hg : goes mark x = true) (hk : k < n) (hn16 : n ≤ 16) : Calls Try.prog 63 #[.pointer (some ⟨gr, 0, none⟩)] w (EwE base g w0 n sl gr mark at_ v l S (.bool true)) := by
  subst ha
  obtain ⟨G, h1, ⟨g1, g2, g3, g4⟩, h2, h3, h4⟩ := h.out
  refine (gready_any h1 sl n 0 n gr k mark x (by rw [Nat.zero_add]; exact hx) hk h2 h3 (by decide) hn16).mono ?_
  rw [hg]
  rintro e w' ⟨rfl, _, hb⟩
  exact ⟨rfl, h.after hb⟩
theorem ew_leave (h : EW base g w0 n sl gr mark at_ v l S w) {m : Nat} {c : Int} (hc : (S.look (m : Int)).2 = c) (hm : m < n) (hn16 : n ≤ 16) (hb : S.bad ≤ 4611686018427387904) (hn : (S.tr.length + 1) * 40 ≤ 140737488355328) : Calls Try.prog 64 #[.pointer (some ⟨sl, 0, none⟩), .int .i64 (m : Int)] w (EwE base g w0 n sl gr mark at_ v l (S.store (m : Int) 0) (.int .i64 c)) := by
  obtain ⟨G, h1, ⟨g1, g2, g3, g4⟩, h2, h3, h4⟩ := h.out
  have z : ((0 : Nat) : Int) + (m : Int) = (m : Int) := by omega
  have C := leave18_any h1 sl n 0 n m hm g1 h2 (by decide) hn16 hb hn
  rw [z, hc] at C
  refine C.mono ?_
  rintro e w' ⟨rfl, c1, c3⟩
  exact ⟨rfl, G, c1, ⟨g1, g2, g3, g4⟩, h2.keep (c3 sl g1), h3.keep (c3 gr g2), own_keep h4 fun b hb => c3 b (g3 b hb)⟩
/-- with a section beside -/
structure EX (base g : Nat) (w0 : World) (n sl gr xb slot : Nat) (p q : Int) (mark at_ : Int) (v : Value) (l : List Acc) (S : Cm) (w : World) : Prop where mk ::
  out : ∃ G : Nat → Prop, HasG base g w0 (fun k => G k ∨ k = xb) S w ∧ (G sl ∧ G gr ∧ (∀ b, v.ownBlock = some b → G b) ∧ ∀ k, G k → base ≤ k) ∧ Blk w sl 157 #[.pointer (some ⟨g, 0, none⟩), .int .i64 (n : Int), .int .i64 ((0 : Nat) : Int), .int .i64 (n : Int)] ∧ Blk w gr 159 #[.pointer (some ⟨sl, 0, none⟩), .int .i64 mark, .int .i64 at_] ∧ w.ownsRow base 47 5 v l.length (l.flatMap fAcc) ∧ Blk w xb 161 #[.pointer (some ⟨sl, 0, none⟩), .int .i64 (slot : Int), .int .i64 p, .int .i64 q] ∧ base ≤ xb
theorem EX.ew (h : EX base g w0 n sl gr xb slot p q mark at_ v l S w) : EW base g w0 n sl gr mark at_ v l S w := by
  obtain ⟨G, h1, hg, h2, h3, h4, _⟩ := h.out
  exact ⟨G, h1.sub18 fun _ h => .inl h, hg, h2, h3, h4⟩
def ExE (base g : Nat) (w0 : World) (n sl gr xb slot : Nat) (p q : Int) (mark at_ : Int) (v : Value) (l : List Acc) (S : Cm) (r : Value) (e : Ending) (w' : World) : Prop := e = .returned r ∧ EX base g w0 n sl gr xb slot p q mark at_ v l S w'
theorem ew_enter (h : EW base g w0 n sl gr mark at_ v l S w) {k : Nat} (hk : k < n) : Calls Try.prog 60 #[.pointer (some ⟨sl, 0, none⟩), .int .i64 (k : Int)] w fun e w' => ∃ xb, e = .returned (.tuple #[.pointer (some ⟨xb, 0, none⟩), .int .i64 0]) ∧ Hid (EX base g w0 n sl gr xb k 0 0 mark at_ v l S w') := by
  obtain ⟨G, h1, ⟨g1, g2, g3, g4⟩, h2, h3, h4⟩ := h.out
  refine (enter18_any sl n 0 n (k : Int) h2).mono ?_
  rintro e w' (⟨h0, _, _⟩ | ⟨_, rfl, rfl⟩)
  · exact absurd ⟨by omega, by omega⟩ h0
  have B := (Below.refl w.heap.size w).alloc (Nat.le_refl _) (.cells #[.pointer (some ⟨sl, 0, none⟩), .int .i64 (k : Int), .int .i64 0, .int .i64 0] 161)
  exact ⟨_, rfl, G, h1.grow _, ⟨g1, g2, g3, g4⟩, h2.keep (B.block _ h2.lt), h3.keep (B.block _ h3.lt), (Fr.of_below B).own h4 (fun _ _ h => h), Blk.new w _ 161, h1.le⟩
theorem ex_keep {G : Nat → Prop} (h4 : w.ownsRow base 47 5 v l.length (l.flatMap fAcc)) (g3 : ∀ b, v.ownBlock = some b → G b) (hx : Blk w xb 161 #[.pointer (some ⟨sl, 0, none⟩), .int .i64 (slot : Int), .int .i64 p, .int .i64 q]) (c3 : ∀ k, (G k ∨ k = xb) → k ≠ xb → w'.heap[k]? = w.heap[k]?) : w'.ownsRow base 47 5 v l.length (l.flatMap fAcc) :=
  own_keep h4 fun b hb => c3 b (.inl (g3 b hb)) fun e => own_ne h4 hx (by decide) (e ▸ hb)
theorem ex_one (h : EX base g w0 n sl gr xb slot 0 q mark at_ v l S w) {x : Int} (hx : (S.look (n : Int)).1 = x) (hb : S.bad ≤ 4611686018427387904) (hn : (S.tr.length + 1) * 40 ≤ 140737488355328) : Calls Try.prog 61 #[.pointer (some ⟨xb, 0, none⟩)] w (ExE base g w0 n sl gr xb slot 1 x mark at_ v l (S.load (n : Int)) (.bool false)) := by
  obtain ⟨G, h1, ⟨g1, g2, g3, g4⟩, h2, h3, h4, h5, h6⟩ := h.out
  have C := sec_one h1 sl n 0 n xb slot q (.inl g1) (.inr rfl) h6 h2 h5 hb hn
  rw [hx] at C
  refine C.mono ?_
  rintro e w' ⟨rfl, c1, c2, c3⟩
  exact ⟨rfl, G, c1, ⟨g1, g2, g3, g4⟩, h2.keep (c3 sl (.inl g1) (blk_ne h2 h5 (by decide))), h3.keep (c3 gr (.inl g2) (blk_ne h3 h5 (by decide))), ex_keep h4 g3 h5 c3, c2, h6⟩
theorem ex_two (h : EX base g w0 n sl gr xb slot 1 q mark at_ v l S w) (hs : slot ≤ 65536) (hb : S.bad ≤ 4611686018427387904) (hn : (S.tr.length + 1) * 40 ≤ 140737488355328) : Calls Try.prog 61 #[.pointer (some ⟨xb, 0, none⟩)] w (ExE base g w0 n sl gr xb slot 2 q mark at_ v l (S.store (slot : Int) q) (.bool true)) := by
  obtain ⟨G, h1, ⟨g1, g2, g3, g4⟩, h2, h3, h4, h5, h6⟩ := h.out
  have z : ((0 : Nat) : Int) + (slot : Int) = (slot : Int) := by omega
  have C := sec_two h1 sl n 0 n xb slot q (.inl g1) (.inr rfl) h6 h2 h5 (by decide) hs hb hn
  rw [z] at C
  refine C.mono ?_
  rintro e w' ⟨rfl, c1, c2, c3⟩
  exact ⟨rfl, G, c1, ⟨g1, g2, g3, g4⟩, h2.keep (c3 sl (.inl g1) (blk_ne h2 h5 (by decide))), h3.keep (c3 gr (.inl g2) (blk_ne h3 h5 (by decide))), ex_keep h4 g3 h5 c3, c2, h6⟩
end
end Go.Proofs.Ytkbobgblohohcaa

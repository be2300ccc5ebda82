/- The law EpochAlone: plain, and what lies in memory. -/
import Derived.Test.YtkbobgblohohcaaEpD
import Derived.Test.YtkbobgblohohcaaTurnP
namespace Go.Proofs.Ytkbobgblohohcaa
open Go.RowKit Go.Mm Go.Cells Go.WideShapes
def entB (es : List Bool) (j : Nat) : Bool := es[j]?.getD false
theorem entB_at {es : List Bool} {j : Nat} {b : Bool} (h : es[j]? = some b) : entB es j = b := by unfold entB; rw [h]; rfl
theorem entB_out {es : List Bool} {j : Nat} (h : es.length ≤ j) : entB es j = false := by unfold entB; rw [List.getElem?_eq_none h]; rfl
/-- what a slot holds when those below k have come -/
def slV (es : List Bool) (f : Int) (k j : Nat) : Int := if j < k ∧ entB es j = true then f + 1 else 0
structure E1 (n : Nat) (f : Int) (k : Nat) (es : List Bool) (S : Cm) (l : List Acc) : Prop where
  tr : S.tr = l
  bad : S.bad = 0
  len : S.ws.length = n + 1
  ep : S.ws[n]? = some (f + 1)
  sl : ∀ j : Nat, j < n → S.ws[j]? = some (slV es f k j)
  le : l.length ≤ 2 + 2 * k
section
variable {n k : Nat} {f : Int} {es : List Bool} {S : Cm} {l : List Acc}
theorem slV_good (hf : 1 ≤ f) (j : Nat) : slV es f k j ≠ poison := by unfold slV poison; split <;> omega
theorem E1.skip (h : E1 n f k es S l) (he : entB es k = false) : E1 n f (k + 1) es S l := by
  refine ⟨h.tr, h.bad, h.len, h.ep, fun j hj => ?_, by have := h.le; omega⟩
  rw [h.sl j hj]
  congr 1
  unfold slV
  by_cases e : j = k
  · subst e; simp [he]
  · have : (j < k + 1 ∧ entB es j = true) ↔ (j < k ∧ entB es j = true) := by constructor <;> (rintro ⟨a, b⟩; exact ⟨by omega, b⟩)
    simp only [this]
theorem E1.come (h : E1 n f k es S l) (hf : 1 ≤ f) (hk : k < n) (he : entB es k = true) : S.look (n : Int) = (f + 1, 0) ∧ (S.load (n : Int)).look (k : Int) = (0, 0) ∧ E1 n f (k + 1) es ((S.load (n : Int)).store (k : Int) (f + 1)) (l ++ [⟨1, (n : Int), f + 1, 0, true⟩, ⟨2, (k : Int), f + 1, 0, true⟩]) := by
  obtain ⟨a1, a2⟩ := look_good h.ep (show f + 1 ≠ poison by unfold poison; omega)
  have hw : (S.load (n : Int)).ws[k]? = some 0 := by
    show S.ws[k]? = _
    rw [h.sl k hk]; unfold slV; rw [if_neg (by omega)]
  obtain ⟨b1, b2⟩ := look_good hw (by decide)
  refine ⟨a1, b1, ?_, ?_, ?_, ?_, fun j hj => ?_, by simp; have := h.le; omega⟩
  · show (S.load (n : Int)).tr ++ [⟨2, (k : Int), f + 1, ((S.load (n : Int)).look (k : Int)).1, ((S.load (n : Int)).look (k : Int)).2 == 0⟩] = _
    rw [b1]
    show (S.tr ++ [⟨1, (n : Int), (S.look (n : Int)).1, 0, (S.look (n : Int)).2 == 0⟩]) ++ _ = _
    rw [a1, h.tr]
    simp
  · show (S.load (n : Int)).looked (k : Int) = 0
    rw [b2]
    show S.looked (n : Int) = 0
    rw [a2, h.bad]
  · obtain ⟨c1, _, _⟩ := store_ws (y := f + 1) hw (by decide)
    rw [c1, List.length_set]; exact h.len
  · obtain ⟨c1, _, _⟩ := store_ws (y := f + 1) hw (by decide)
    rw [c1, List.getElem?_set_ne (by omega)]; exact h.ep
  · obtain ⟨c1, _, _⟩ := store_ws (y := f + 1) hw (by decide)
    rw [c1]
    by_cases e : j = k
    · subst e
      rw [set_get hw]; unfold slV; rw [if_pos ⟨by omega, he⟩]
    · rw [List.getElem?_set_ne (Ne.symm e)]
      show S.ws[j]? = _
      rw [h.sl j hj]
      congr 1
      unfold slV
      have : (j < k + 1 ∧ entB es j = true) ↔ (j < k ∧ entB es j = true) := by constructor <;> (rintro ⟨a, b⟩; exact ⟨by omega, b⟩)
      simp only [this]
theorem E1.all (h : E1 n f k es S l) (hk : k ≤ n) (hN : es.length ≤ k ∨ n ≤ k) : ∀ j : Nat, j < n → S.ws[j]? = some (slV es f n j) := by
  intro j hj
  rw [h.sl j hj]
  congr 1
  unfold slV
  by_cases hjk : j < k
  · simp [hjk, hj]
  · rw [if_neg (by omega), if_neg]
    rintro ⟨_, he⟩
    rw [entB_out (by omega)] at he
    cases he
/-- the grace period has looked at k slots -/
structure E2 (n : Nat) (f : Int) (k : Nat) (es : List Bool) (S : Cm) (l : List Acc) : Prop where
  tr : S.tr = l
  bad : S.bad = 0
  len : S.ws.length = n + 1
  sl : ∀ j : Nat, j < n → S.ws[j]? = some (slV es f n j)
  le : l.length ≤ 100 + k
theorem E2.look (h : E2 n f k es S l) (hf : 1 ≤ f) (hk : k < n) : S.look (k : Int) = (slV es f n k, 0) ∧ goes (f + 1) (slV es f n k) = true ∧ E2 n f (k + 1) es (S.load (k : Int)) (l ++ [⟨1, (k : Int), slV es f n k, 0, true⟩]) := by
  obtain ⟨a1, a2⟩ := look_good (h.sl k hk) (slV_good hf k)
  refine ⟨a1, ?_, ?_, ?_, h.len, h.sl, by simp; have := h.le; omega⟩
  · unfold goes slV; split <;> simp
  · show S.tr ++ [⟨1, (k : Int), (S.look (k : Int)).1, 0, (S.look (k : Int)).2 == 0⟩] = _
    rw [a1, h.tr]; rfl
  · show S.looked (k : Int) = 0
    rw [a2, h.bad]
theorem E2.leave (h : E2 n f n es S l) {m : Nat} (hm : m < n) (hf : 1 ≤ f) (he : entB es m = true) : (S.look (m : Int)).2 = 0 ∧ (S.store (m : Int) 0).tr = l ++ [⟨2, (m : Int), 0, f + 1, true⟩] ∧ (S.store (m : Int) 0).bad = 0 := by
  have hx := h.sl m hm
  obtain ⟨a1, a2⟩ := look_good hx (slV_good hf m)
  have e : slV es f n m = f + 1 := by unfold slV; rw [if_pos ⟨hm, he⟩]
  rw [e] at a1
  refine ⟨by rw [a1], ?_, ?_⟩
  · show S.tr ++ [⟨2, (m : Int), 0, (S.look (m : Int)).1, (S.look (m : Int)).2 == 0⟩] = _
    rw [a1, h.tr]; rfl
  · show S.looked (m : Int) = 0
    rw [a2, h.bad]
end
/-- slots, a grace period, and a list of one's own, beside a memory -/
structure EW (base g : Nat) (w0 : World) (n sl gr : Nat) (mark at_ : Int) (v : Value) (l : List Acc) (S : Cm) (w : World) : Prop where mk ::
  out : ∃ G : Nat → Prop, HasG base g w0 G S w ∧ (G sl ∧ G gr ∧ (∀ b, v.ownBlock = some b → G b) ∧ ∀ k, G k → base ≤ k) ∧ Blk w sl 157 #[.pointer (some ⟨g, 0, none⟩), .int .i64 (n : Int), .int .i64 ((0 : Nat) : Int), .int .i64 (n : Int)] ∧ Blk w gr 159 #[.pointer (some ⟨sl, 0, none⟩), .int .i64 mark, .int .i64 at_] ∧ w.ownsRow base 47 5 v l.length (l.flatMap fAcc)
section
variable {base g n sl gr : Nat} {w0 w w1 w' : World} {mark at_ : Int} {v v1 : Value} {l ys : List Acc} {S S' : Cm}
theorem EW.to (h : EW base g w0 n sl gr mark at_ v l S w) : Below base w0 w := by
  obtain ⟨G, h1, _⟩ := h.out
  exact h1.to
theorem EW.le (h : EW base g w0 n sl gr mark at_ v l S w) : base ≤ w.heap.size := by
  obtain ⟨G, h1, _⟩ := h.out
  exact h1.le
/-- the list is gone on with -/
theorem EW.push (h : EW base g w0 n sl gr mark at_ v l S w) (K1 : w1.ownsRow base 47 5 v1 (l.length + ys.length) (l.flatMap fAcc ++ ys.flatMap fAcc)) (K3 : w.grownBy w1 v.ownBlock) (K4 : ∀ k, v1.ownBlock = some k → v.ownBlock = some k ∨ w.heap.size ≤ k) : EW base g w0 n sl gr mark at_ v1 (l ++ ys) S w1 := by
  obtain ⟨G, h1, ⟨g1, g2, g3, g4⟩, h2, h3, h4⟩ := h.out
  have f1 : Fr (fun k => v.ownBlock = some k) w w1 := Fr.grown K3
  refine ⟨_, h1.more18 f1 fun k e => ⟨g3 k e, g4 k (g3 k e)⟩, ⟨.inl g1, .inl g2, fun b hb => ?_, ?_⟩, f1.blk h2 (own_ne h4 h2 (by decide)), f1.blk h3 (own_ne h4 h3 (by decide)), by rw [List.length_append, List.flatMap_append]; exact K1⟩
  · rcases K4 b hb with e | e
    · exact .inl (g3 b e)
    · exact .inr ⟨e, (own_lt K1 hb).2⟩
  · rintro k (hk | hk)
    · exact g4 k hk
    · have := h1.le; omega
/-- a call that leaves all of it but the grace period -/
theorem EW.turn (h : EW base g w0 n sl gr mark at_ v l S w) {mark' at' : Int} (hc : ∀ G, HasG base g w0 G S w → G sl → G gr → (∀ k, G k → base ≤ k) → Blk w sl 157 #[.pointer (some ⟨g, 0, none⟩), .int .i64 (n : Int), .int .i64 ((0 : Nat) : Int), .int .i64 (n : Int)] → Blk w gr 159 #[.pointer (some ⟨sl, 0, none⟩), .int .i64 mark, .int .i64 at_] → HasG base g w0 G S' w' ∧ Blk w' gr 159 #[.pointer (some ⟨sl, 0, none⟩), .int .i64 mark', .int .i64 at'] ∧ ∀ k, G k → k ≠ gr → w'.heap[k]? = w.heap[k]?) :
    EW base g w0 n sl gr mark' at' v l S' w' := by
  obtain ⟨G, h1, ⟨g1, g2, g3, g4⟩, h2, h3, h4⟩ := h.out
  obtain ⟨c1, c2, c3⟩ := hc G h1 g1 g2 g4 h2 h3
  exact ⟨G, c1, ⟨g1, g2, g3, g4⟩, h2.keep (c3 sl g1 (blk_ne h2 h3 (by decide))), c2, own_keep h4 fun b hb => c3 b (g3 b hb) fun e => own_ne h4 h3 (by decide) (e ▸ hb)⟩
theorem EW.after (h : EW base g w0 n sl gr mark at_ v l S w) (hb : Below w.heap.size w w') : EW base g w0 n sl gr mark at_ v l S w' := by
  obtain ⟨G, h1, hg, h2, h3, h4⟩ := h.out
  exact ⟨G, (h1.after hb).1, hg, h2.keep (hb.block _ h2.lt), h3.keep (hb.block _ h3.lt), (Fr.of_below hb).own h4 fun _ _ h => h⟩
end
theorem rd_lit5 (w : World) (cs : Array Value) (m : Nat) (hs : cs.size = m * 5) (hm : 0 < m) : Rd (w.alloc (.cells cs 47)) (some ⟨w.heap.size, 0, none⟩) m 5 cs.toList := by
  refine ⟨by simp [hs], fun _ => ⟨_, rfl, by simp, fun j u hu => ?_⟩⟩
  rw [Mm.add_plain, cell_of_row (w.alloc (.cells cs 47)) w.heap.size j cs 47 (0, 0) (heap_alloc_new w _)]
  simpa using hu
theorem own_lit5 (w : World) (base : Nat) (cs : Array Value) (m : Nat) (xs : List Value) (hx : cs.toList = xs) (hs : cs.size = m * 5) (hm : m ≤ 1000) (hb : base ≤ w.heap.size) : (w.alloc (.cells cs 47)).ownsRow base 47 5 (.slice (some ⟨w.heap.size, 0, none⟩) m m) m xs := by
  subst hx
  exact ⟨by simp [hs], .inr ⟨w.heap.size, m, cs, rfl, hb, heap_alloc_new w _, Nat.le_refl _, by unfold maxLen; omega, hs, List.take_of_length_le (by simp [hs])⟩⟩
section
variable {H : Type} {enc : TypeId × Value → H} {w : World} {b0 : Nat} {spare : Nat → Bool} {held : Bool} {v : Value} {d : DataW H} {ps : List MemPlace} {ts : List TypeId} {ds : List (DataW H)} {j : Nat}
def fBl (b : Bool) : List Value := [.bool b]
set_option maxRecDepth 100000 in
theorem open_bools (hval : Value.okWide Try.prog w .any b0 92 v) (hd : DataW.Trod enc Try.prog w 0 spare held 92 v d ps)
    (hz : (DataW.weightsEach Try.prog ts ds).all (· ≤ reachBytes) = true) (hj : ts[j]? = some 92) (hj' : ds[j]? = some d) :
    ∃ A n c xs, v = .slice A n c ∧ Sl w 1 1 fBl (fun _ => True) A n c xs :=
  open_sl fBl (fun _ => True) Try.underlying92 (by kernel_rfl) (by decide) (by kernel_rfl) (fun _ _ _ h => by
    obtain ⟨m, rfl, _⟩ := DataW.trod_bool Try.underlying4 h
    exact ⟨m, rfl, trivial⟩) hval hd hz hj hj'
theorem fBl_get {xs : List Bool} {i : Nat} {b : Bool} (h : xs[i]? = some b) : (xs.flatMap fBl)[i]? = some (.bool b) := by
  have : xs.flatMap fBl = xs.map Value.bool := flatMap_one _ _
  rw [this, List.getElem?_map, h]; rfl
end
end Go.Proofs.Ytkbobgblohohcaa

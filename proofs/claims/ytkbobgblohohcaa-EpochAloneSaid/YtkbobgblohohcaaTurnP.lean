/- The law LockTurns: the room, plain and in memory. -/
import Derived.Test.YtkbobgblohohcaaReady
import Derived.Test.YtkbobgblohohcaaRows2
namespace Go.Proofs.Ytkbobgblohohcaa
open Go.RowKit Go.Mm Go.Cells
/-- a task -/
structure Tk where
  wb : Option Nat
  W : Wt
  num : Int
  holds : Bool
  stays : Int
def fT (T : Tk) : List Value := [.pointer (T.wb.map fun b => ⟨b, 0, none⟩), .int .i64 T.num, .bool T.holds, .int .i64 T.stays]
theorem fT_len (T : Tk) : (fT T).length = 4 := rfl
def lkB (l0 l1 i : Nat) : Nat := if i % 2 = 0 then l0 else l1
def ordL (m : Nat) : List Int := (List.range m).map fun (i : Nat) => (i : Int)
theorem set_self {α : Type} {l : List α} {k : Nat} {u : α} (h : l[k]? = some u) : l.set k u = l := by
  refine List.ext_getElem? fun j => ?_
  rw [List.getElem?_set]
  split
  · rename_i e; subst e; split
    · exact h.symm
    · rename_i hk; exact absurd (List.getElem?_eq_some_iff.1 h).1 hk
  · rfl
theorem ordL_len (m : Nat) : (ordL m).length = m := by simp [ordL]
theorem ordL_snoc (m : Nat) : ordL m ++ [(m : Int)] = ordL (m + 1) := by simp [ordL, List.range_succ]
theorem ordL_get {m i : Nat} (h : i < m) : (ordL m)[i]? = some (i : Int) := by simp [ordL, h]
theorem own_keep {w w' : World} {base e sz n : Nat} {v : Value} {xs : List Value} (h : w.ownsRow base e sz v n xs) (hk : ∀ b, v.ownBlock = some b → w'.heap[b]? = w.heap[b]?) : w'.ownsRow base e sz v n xs := by
  refine ⟨h.1, ?_⟩
  rcases h.2 with h0 | ⟨g, cap, cur, rfl, hb, hg, r⟩
  · exact .inl h0
  · exact .inr ⟨g, cap, cur, rfl, hb, by rw [hk g rfl]; exact hg, r⟩
theorem own_setN {w : World} {base e sz n c tb : Nat} {xs : List Value} (h : w.ownsRow base e sz (.slice (some ⟨tb, 0, none⟩) n c) n xs) (j : Nat) (u : Value) : (w.setCell ⟨tb, j, none⟩ u).ownsRow base e sz (.slice (some ⟨tb, 0, none⟩) n c) n (xs.set j u) := by
  rcases h.2 with ⟨h0, _⟩ | ⟨g, cap, cur, hv, hb, hg, hnc, hcm, hcs, ht⟩
  · cases h0
  · injection hv with h1 h2 h3
    injection h1 with h1
    injection h1 with h1
    subst h1
    subst h3
    refine ⟨by rw [List.length_set]; exact h.1, .inr ⟨tb, c, cur.setIfInBounds j u, rfl, hb, ?_, hnc, hcm, by simpa using hcs, ?_⟩⟩
    · exact (show Blk w tb e cur from hg).set j u
    · rw [← ht, Array.toList_setIfInBounds, List.take_set]
theorem set_or {α : Type} {l : List α} {k j : Nat} {q p : α} (h : (l.set k q)[j]? = some p) : (j = k ∧ p = q) ∨ (j ≠ k ∧ l[j]? = some p) := by
  rw [List.getElem?_set] at h
  split at h
  · split at h
    · injection h with h; exact .inl ⟨by omega, h.symm⟩
    · cases h
  · exact .inr ⟨by omega, h⟩
/-- the room in memory, its blocks among G -/
structure RM (base g : Nat) (G : Nat → Prop) (rb lL l0 l1 tb n cap : Nat) (Ts : List Tk) (came left : Int) (v : Value) (ord : List Int) (w : World) : Prop where
  geb : ∀ k, G k → base ≤ k
  grb : G rb
  gL : G lL
  g0 : G l0
  g1 : G l1
  gtb : G tb
  gv : ∀ b, v.ownBlock = some b → G b
  room : Blk w rb 79 #[.pointer (some ⟨g, 0, none⟩), .slice (some ⟨lL, 0, none⟩) 2 2, .slice (some ⟨tb, 0, none⟩) n cap, .int .i64 came, .int .i64 left, v]
  locks : Blk w lL 64 #[.pointer (some ⟨l0, 0, none⟩), .pointer (some ⟨l1, 0, none⟩)]
  lk0 : Blk w l0 146 #[.pointer (some ⟨g, 0, none⟩), .int .i64 1, .int .i64 2]
  lk1 : Blk w l1 146 #[.pointer (some ⟨g, 0, none⟩), .int .i64 1, .int .i64 2]
  tasks : w.ownsRow base 153 4 (.slice (some ⟨tb, 0, none⟩) n cap) n (Ts.flatMap fT)
  order : w.ownsRow base 3 1 v ord.length (iL ord)
  wait : ∀ (i : Nat) (T : Tk), Ts[i]? = some T → ∀ b, T.wb = some b → G b ∧ Blk w b 150 #[.pointer (some ⟨lkB l0 l1 i, 0, none⟩), .int .i64 T.W.num, .bool T.W.drawn, .bool T.W.holds]
  apart : ∀ (i j : Nat) (T T' : Tk), i ≠ j → Ts[i]? = some T → Ts[j]? = some T' → ∀ b, T.wb = some b → T'.wb ≠ some b
section
variable {base g : Nat} {w0 : World} {G G' : Nat → Prop} {rb lL l0 l1 tb n cap : Nat} {Ts : List Tk} {came left came' left' : Int} {v : Value} {ord : List Int} {w w' : World} {S S' : Cm}
theorem HasG.sub (h : HasG base g w0 G' S w) (hs : ∀ k, G k → G' k) : HasG base g w0 G S w := by
  obtain ⟨F, h1, h2, h3⟩ := h.out
  exact ⟨F, h1, h2, fun k hk => h3 k (hs k hk)⟩
theorem RM.keep (h : RM base g G rb lL l0 l1 tb n cap Ts came left v ord w) (hk : ∀ k, G k → w'.heap[k]? = w.heap[k]?) : RM base g G rb lL l0 l1 tb n cap Ts came left v ord w' :=
  ⟨h.geb, h.grb, h.gL, h.g0, h.g1, h.gtb, h.gv, h.room.keep (hk _ h.grb), h.locks.keep (hk _ h.gL), h.lk0.keep (hk _ h.g0), h.lk1.keep (hk _ h.g1),
    own_keep h.tasks (fun b hb => by injection hb with hb; subst hb; exact hk _ h.gtb), own_keep h.order (fun b hb => hk b (h.gv b hb)),
    fun i T hT b hb => ⟨(h.wait i T hT b hb).1, (h.wait i T hT b hb).2.keep (hk b (h.wait i T hT b hb).1)⟩, h.apart⟩
theorem RM.grow (h : RM base g G rb lL l0 l1 tb n cap Ts came left v ord w) (hs : ∀ k, G k → G' k) (hg : ∀ k, G' k → base ≤ k) : RM base g G' rb lL l0 l1 tb n cap Ts came left v ord w :=
  ⟨hg, hs _ h.grb, hs _ h.gL, hs _ h.g0, hs _ h.g1, hs _ h.gtb, fun b hb => hs _ (h.gv b hb), h.room, h.locks, h.lk0, h.lk1, h.tasks, h.order, fun i T hT b hb => ⟨hs _ (h.wait i T hT b hb).1, (h.wait i T hT b hb).2⟩, h.apart⟩
/-- the blocks are no two alike -/
theorem RM.tb_ne (h : RM base g G rb lL l0 l1 tb n cap Ts came left v ord w) {b t : Nat} {cs : Array Value} (hb : Blk w b t cs) (ht : t ≠ 153) : b ≠ tb := fun e => own_ne h.tasks hb ht (by rw [e]; rfl)
theorem RM.v_ne (h : RM base g G rb lL l0 l1 tb n cap Ts came left v ord w) {b t : Nat} {cs : Array Value} (hb : Blk w b t cs) (ht : t ≠ 3) : v.ownBlock ≠ some b := own_ne h.order hb ht
/-- a waiter steps -/
theorem RM.step (h : RM base g G rb lL l0 l1 tb n cap Ts came left v ord w) {i : Nat} {T : Tk} {b : Nat} {W' : Wt} (hT : Ts[i]? = some T) (hb : T.wb = some b) (hk : ∀ k, G k → k ≠ b → w'.heap[k]? = w.heap[k]?)
    (hw : Blk w' b 150 #[.pointer (some ⟨lkB l0 l1 i, 0, none⟩), .int .i64 W'.num, .bool W'.drawn, .bool W'.holds]) : RM base g G rb lL l0 l1 tb n cap (Ts.set i { T with W := W' }) came left v ord w' := by
  obtain ⟨gb, wb⟩ := h.wait i T hT b hb
  have e : (Ts.set i { T with W := W' }).flatMap fT = Ts.flatMap fT := by
    have q := flatMap_set fT_len hT (j := 0) (y := { T with W := W' }) (u := .pointer (T.wb.map fun b => ⟨b, 0, none⟩)) (by decide) rfl
    rw [← q]
    have hi := (List.getElem?_eq_some_iff.1 hT).1
    have := flatMap_at fT_len hT (j := 0) (by decide)
    exact set_self this
  refine ⟨h.geb, h.grb, h.gL, h.g0, h.g1, h.gtb, h.gv, h.room.keep (hk _ h.grb (blk_ne h.room wb (by decide))), h.locks.keep (hk _ h.gL (blk_ne h.locks wb (by decide))), h.lk0.keep (hk _ h.g0 (blk_ne h.lk0 wb (by decide))), h.lk1.keep (hk _ h.g1 (blk_ne h.lk1 wb (by decide))), ?_, ?_, ?_, ?_⟩
  · rw [e]
    exact own_keep h.tasks fun b' hb' => by
      injection hb' with hb'; subst hb'; exact hk _ h.gtb (h.tb_ne wb (by decide)).symm
  · exact own_keep h.order fun b' hb' => hk b' (h.gv b' hb') fun e => h.v_ne wb (by decide) (e ▸ hb')
  · intro j T2 hT2 b2 hb2
    rcases set_or hT2 with ⟨rfl, rfl⟩ | ⟨hj, hT2⟩
    · have e2 : b2 = b := by have : T.wb = some b2 := hb2; rw [hb] at this; injection this with this; exact this.symm
      subst e2
      exact ⟨gb, hw⟩
    · obtain ⟨q1, q2⟩ := h.wait j T2 hT2 b2 hb2
      exact ⟨q1, q2.keep (hk b2 q1 fun e => h.apart i j T T2 (Ne.symm hj) hT hT2 b hb (e ▸ hb2))⟩
  · intro j k T2 T3 hjk h2 h3 b2 hb2
    rcases set_or h2 with ⟨rfl, rfl⟩ | ⟨hj, h4⟩ <;> rcases set_or h3 with ⟨rfl, rfl⟩ | ⟨hk', h5⟩
    · exact absurd rfl hjk
    · exact h.apart j k T T3 hjk hT h5 b2 hb2
    · exact h.apart j k T2 T hjk h4 hT b2 hb2
    · exact h.apart j k T2 T3 hjk h4 h5 b2 hb2
/-- a number of the room is written -/
theorem RM.cell (h : RM base g G rb lL l0 l1 tb n cap Ts came left v ord w) (j : Nat) (u : Value) (hr : Blk (w.setCell ⟨rb, j, none⟩ u) rb 79 #[.pointer (some ⟨g, 0, none⟩), .slice (some ⟨lL, 0, none⟩) 2 2, .slice (some ⟨tb, 0, none⟩) n cap, .int .i64 came', .int .i64 left', v]) : RM base g G rb lL l0 l1 tb n cap Ts came' left' v ord (w.setCell ⟨rb, j, none⟩ u) := by
  have hf := Fr.setCell w ⟨rb, j, none⟩ u
  exact ⟨h.geb, h.grb, h.gL, h.g0, h.g1, h.gtb, h.gv, hr, hf.blk h.locks (blk_ne h.locks h.room (by decide)), hf.blk h.lk0 (blk_ne h.lk0 h.room (by decide)), hf.blk h.lk1 (blk_ne h.lk1 h.room (by decide)),
    hf.own h.tasks (fun b hb e => h.tb_ne h.room (by decide) (by injection hb with hb; exact e.symm.trans hb.symm)), hf.own h.order (fun b hb e => h.v_ne h.room (by decide) (by rw [hb, show b = rb from e])),
    fun i T hT b hb => ⟨(h.wait i T hT b hb).1, hf.blk (h.wait i T hT b hb).2 (blk_ne (h.wait i T hT b hb).2 h.room (by decide))⟩, h.apart⟩
theorem RM.setCame (h : RM base g G rb lL l0 l1 tb n cap Ts came left v ord w) (c : Int) : RM base g G rb lL l0 l1 tb n cap Ts c left v ord (w.setCell ⟨rb, 3, none⟩ (.int .i64 c)) := h.cell 3 _ (h.room.set 3 _)
theorem RM.setLeft (h : RM base g G rb lL l0 l1 tb n cap Ts came left v ord w) (c : Int) : RM base g G rb lL l0 l1 tb n cap Ts came c v ord (w.setCell ⟨rb, 4, none⟩ (.int .i64 c)) := h.cell 4 _ (h.room.set 4 _)
/-- a task is written back -/
theorem RM.task (h : RM base g G rb lL l0 l1 tb n cap Ts came left v ord w) {i : Nat} {T : Tk} (T' : Tk) (hT : Ts[i]? = some T) (hw : ∀ b, T'.wb = some b → G b ∧ Blk w b 150 #[.pointer (some ⟨lkB l0 l1 i, 0, none⟩), .int .i64 T'.W.num, .bool T'.W.drawn, .bool T'.W.holds])
    (ha : ∀ j T2, j ≠ i → Ts[j]? = some T2 → ∀ b, T'.wb = some b → T2.wb ≠ some b) :
    RM base g G rb lL l0 l1 tb n cap (Ts.set i T') came left v ord ((((w.setCell ⟨tb, i * 4 + 0, none⟩ (.pointer (T'.wb.map fun b => ⟨b, 0, none⟩))).setCell ⟨tb, i * 4 + 1, none⟩ (.int .i64 T'.num)).setCell ⟨tb, i * 4 + 2, none⟩ (.bool T'.holds)).setCell ⟨tb, i * 4 + 3, none⟩ (.int .i64 T'.stays)) := by
  have hf := (((Fr.setCell w ⟨tb, i * 4 + 0, none⟩ (.pointer (T'.wb.map fun b => ⟨b, 0, none⟩))).trans (Fr.setCell _ ⟨tb, i * 4 + 1, none⟩ (.int .i64 T'.num)) fun _ _ h => h).trans (Fr.setCell _ ⟨tb, i * 4 + 2, none⟩ (.bool T'.holds)) fun _ _ h => h).trans (Fr.setCell _ ⟨tb, i * 4 + 3, none⟩ (.int .i64 T'.stays)) fun _ _ h => h
  have ht := own_setN (own_setN (own_setN (own_setN h.tasks (i * 4 + 0) (.pointer (T'.wb.map fun b => ⟨b, 0, none⟩))) (i * 4 + 1) (.int .i64 T'.num)) (i * 4 + 2) (.bool T'.holds)) (i * 4 + 3) (.int .i64 T'.stays)
  have hi := (List.getElem?_eq_some_iff.1 hT).1
  have at_ : ∀ x : Tk, (Ts.set i x)[i]? = some x := fun x => List.getElem?_set_self hi
  have e : ((((Ts.flatMap fT).set (i * 4 + 0) (.pointer (T'.wb.map fun b => ⟨b, 0, none⟩))).set (i * 4 + 1) (.int .i64 T'.num)).set (i * 4 + 2) (.bool T'.holds)).set (i * 4 + 3) (.int .i64 T'.stays) = (Ts.set i T').flatMap fT := by
    obtain ⟨d0, dW, d1, d2, d3⟩ := T
    obtain ⟨e0, eW, e1, e2, e3⟩ := T'
    dsimp only
    rw [flatMap_set fT_len hT (j := 0) (y := ⟨e0, eW, d1, d2, d3⟩) (by decide) rfl]
    rw [flatMap_set fT_len (at_ ⟨e0, eW, d1, d2, d3⟩) (j := 1) (y := ⟨e0, eW, e1, d2, d3⟩) (by decide) rfl, List.set_set]
    rw [flatMap_set fT_len (at_ ⟨e0, eW, e1, d2, d3⟩) (j := 2) (y := ⟨e0, eW, e1, e2, d3⟩) (by decide) rfl, List.set_set]
    rw [flatMap_set fT_len (at_ ⟨e0, eW, e1, e2, d3⟩) (j := 3) (y := ⟨e0, eW, e1, e2, e3⟩) (by decide) rfl, List.set_set]
  rw [e] at ht
  refine ⟨h.geb, h.grb, h.gL, h.g0, h.g1, h.gtb, h.gv, hf.blk h.room (h.tb_ne h.room (by decide)), hf.blk h.locks (h.tb_ne h.locks (by decide)), hf.blk h.lk0 (h.tb_ne h.lk0 (by decide)), hf.blk h.lk1 (h.tb_ne h.lk1 (by decide)), ht,
    hf.own h.order (fun b hb e => own_own_ne h.order h.tasks (by decide) hb (by rw [show b = tb from e]; rfl)), ?_, ?_⟩
  · intro j T2 hT2 b2 hb2
    rcases set_or hT2 with ⟨rfl, rfl⟩ | ⟨hj, hT2⟩
    · obtain ⟨q1, q2⟩ := hw b2 hb2
      exact ⟨q1, hf.blk q2 (h.tb_ne q2 (by decide))⟩
    · obtain ⟨q1, q2⟩ := h.wait j T2 hT2 b2 hb2
      exact ⟨q1, hf.blk q2 (h.tb_ne q2 (by decide))⟩
  · intro j k T2 T3 hjk h2 h3 b2 hb2
    rcases set_or h2 with ⟨rfl, rfl⟩ | ⟨hj, h4⟩ <;> rcases set_or h3 with ⟨rfl, rfl⟩ | ⟨hk', h5⟩
    · exact absurd rfl hjk
    · exact ha k T3 (Ne.symm hjk) h5 b2 hb2
    · exact fun e => ha j T2 hjk h4 b2 e hb2
    · exact h.apart j k T2 T3 hjk h4 h5 b2 hb2
end
/-- a task's cells -/
structure TkAt (w : World) (tb t : Nat) (T : Tk) : Prop where
  c0 : w.cell? ⟨tb, t * 4, none⟩ = some (.pointer (T.wb.map fun b => ⟨b, 0, none⟩))
  c1 : w.cell? ⟨tb, t * 4 + 1, none⟩ = some (.int .i64 T.num)
  c2 : w.cell? ⟨tb, t * 4 + 2, none⟩ = some (.bool T.holds)
  c3 : w.cell? ⟨tb, t * 4 + 3, none⟩ = some (.int .i64 T.stays)
  f0 : w.frozen? ⟨tb, t * 4, none⟩ = false
  f1 : w.frozen? ⟨tb, t * 4 + 1, none⟩ = false
  f2 : w.frozen? ⟨tb, t * 4 + 2, none⟩ = false
  f3 : w.frozen? ⟨tb, t * 4 + 3, none⟩ = false
theorem RM.at {base g : Nat} {G : Nat → Prop} {rb lL l0 l1 tb n cap t : Nat} {Ts : List Tk} {came left : Int} {v : Value} {ord : List Int} {w : World} {T : Tk} (h : RM base g G rb lL l0 l1 tb n cap Ts came left v ord w) (hT : Ts[t]? = some T) (hn : t < n) : TkAt w tb t T := by
  obtain ⟨g', cap', hv, _, _, _, hcell, hfree⟩ := own_blk h.tasks (by omega)
  injection hv with e1 _ e3
  injection e1 with e1
  injection e1 with e1
  subst e1 e3
  have key : ∀ j u, j < 4 → (fT T)[j]? = some u → w.cell? ⟨tb, t * 4 + j, none⟩ = some u := fun j u hj hu => hcell (t * 4 + j) u (by rw [flatMap_at fT_len hT hj]; exact hu)
  exact ⟨key 0 _ (by decide) rfl, key 1 _ (by decide) rfl, key 2 _ (by decide) rfl, key 3 _ (by decide) rfl, hfree _, hfree _, hfree _, hfree _⟩
/-! plain -/
theorem wrap_one' (x : Int) : wrap64 (wrap64 x + 1) = wrap64 (x + 1) := by unfold wrap64; omega
theorem load_ws' (S : Cm) (a : Int) : (S.load a).ws = S.ws ∧ (S.load a).tr.length = S.tr.length + 1 ∧ (S.load a).bad ≤ S.bad + 1 := ⟨rfl, by simp [Cm.load], looked_le S a⟩
def Idle (T : Tk) : Prop := T.wb = none ∧ T.holds = false ∧ T.num = -1 ∧ T.stays = 0
def Waiting (bg : Int) (came left : Nat) (T : Tk) : Prop := ∃ b q : Nat, T.wb = some b ∧ left ≤ q ∧ q < came ∧ T.num = (q : Int) ∧ T.W = ⟨wrap64 (bg + (q : Int)), true, T.holds⟩ ∧ (T.holds = true → q = left) ∧ 0 ≤ T.stays ∧ T.stays ≤ 6
structure Inv (bg : Int) (k n : Nat) (S : Cm) (Ts : List Tk) (came left m : Nat) : Prop where
  len : Ts.length = n
  w1 : S.ws[1]? = some (wrap64 (bg + (came : Int)))
  w2 : S.ws[2]? = some (wrap64 (bg + (left : Int)))
  lec : left ≤ came
  cek : came ≤ k
  tr : S.tr.length ≤ 2 + k
  bad : S.bad ≤ k
  st : ∀ (i : Nat) (T : Tk), Ts[i]? = some T → Idle T ∨ Waiting bg came left T
  diff : ∀ (i j : Nat) (T T' : Tk), i ≠ j → Ts[i]? = some T → Ts[j]? = some T' → 0 ≤ T.num → T.num ≠ T'.num
  nobody : (∀ (i : Nat) (T : Tk), Ts[i]? = some T → T.holds = false) → m = left
  one : ∀ (i : Nat) (T : Tk), Ts[i]? = some T → T.holds = true → m = left + 1
section
variable {bg : Int} {k n came left m i : Nat} {S : Cm} {Ts : List Tk} {T : Tk}
theorem Inv.only (h : Inv bg k n S Ts came left m) {i j : Nat} {T T' : Tk} (hi : Ts[i]? = some T) (hj : Ts[j]? = some T') (h1 : T.holds = true) (h2 : T'.holds = true) : i = j := by
  by_cases e : i = j
  · exact e
  · exfalso
    rcases h.st i T hi with q | ⟨b, q, _, _, _, a1, _, a2, _⟩
    · rw [q.2.1] at h1; cases h1
    rcases h.st j T' hj with q' | ⟨b', q', _, _, _, b1, _, b2, _⟩
    · rw [q'.2.1] at h2; cases h2
    refine h.diff i j T T' e hi hj (by omega) ?_
    have := a2 h1
    have := b2 h2
    omega
theorem Inv.m_le (h : Inv bg k n S Ts came left m) : m ≤ left + 1 := by
  by_cases q : ∀ (i : Nat) (T : Tk), Ts[i]? = some T → T.holds = false
  · have := h.nobody q; omega
  · obtain ⟨i, hq⟩ := Classical.not_forall.1 q
    obtain ⟨T, hq⟩ := Classical.not_forall.1 hq
    obtain ⟨a, b⟩ := Classical.not_imp.1 hq
    have := h.one i T a (by simpa using b)
    omega
theorem step_idle {x : Int} (h1 : S.ws[1]? = some x) (hp : x ≠ poison) : stepW 1 2 ⟨0, false, false⟩ S = (false, ⟨x, true, false⟩, S.add 1 1) := by
  have hl := (look_good (i := 1) h1 hp).1
  unfold stepW
  rw [show S.look 1 = (x, 0) from hl]
  rfl
theorem step_wait {x y : Int} (h2 : S.ws[2]? = some x) (hp : x ≠ poison) : stepW 1 2 ⟨y, true, false⟩ S = (x == y, ⟨y, true, x == y⟩, S.load 2) := by
  have hl := (look_good (i := 2) h2 hp).1
  unfold stepW
  rw [show S.look 2 = (x, 0) from hl]
  simp
theorem wrap_inj {a b : Nat} (ha : a ≤ 4194304) (hb : b ≤ 4194304) : (wrap64 (bg + (a : Int)) == wrap64 (bg + (b : Int))) = (((b : Nat) : Int) == (a : Int)) := by
  rw [Bool.eq_iff_iff, beq_iff_eq, beq_iff_eq]
  unfold wrap64
  omega
/-- idle: a ticket is taken -/
theorem Inv.take (h : Inv bg k n S Ts came left m) (hT : Ts[i]? = some T) (hI : Idle T) (b : Nat) (hp : wrap64 (bg + (came : Int)) ≠ poison) : Inv bg (k + 1) n (S.add 1 1) (Ts.set i ⟨some b, ⟨wrap64 (bg + (came : Int)), true, false⟩, (came : Int), false, 0⟩) (came + 1) left m := by
  obtain ⟨a1, a2, a3⟩ := add_ws (i := 1) (y := 1) h.w1 hp
  have e1 : (S.add 1 1).ws = _ := a1
  have hc := h.lec
  refine ⟨by rw [List.length_set]; exact h.len, ?_, ?_, by omega, by have := h.cek; omega, by have := h.tr; rw [show (S.add 1 1).tr.length = _ from a3]; omega, by have := h.bad; rw [show (S.add 1 1).bad = _ from a2]; omega, ?_, ?_, ?_, ?_⟩
  · rw [e1, set_get h.w1, wrap_one']; congr 2; omega
  · rw [e1, List.getElem?_set, if_neg (by decide)]; exact h.w2
  · intro j T2 h2
    rcases set_or h2 with ⟨rfl, rfl⟩ | ⟨hj, h2⟩
    · exact .inr ⟨b, came, rfl, hc, Nat.lt_succ_self _, rfl, rfl, (fun e => by cases e), Int.le_refl 0, by show (0:Int) ≤ 6; decide⟩
    · rcases h.st j T2 h2 with q | ⟨b, q, q1, q2, q3, q4⟩
      · exact .inl q
      · exact .inr ⟨b, q, q1, q2, by omega, q4⟩
  · intro j l T2 T3 hjl h2 h3 h0
    have low : ∀ (j : Nat) (T : Tk), Ts[j]? = some T → T.num ≠ (came : Int) := by
      intro j T hj
      rcases h.st j T hj with q | ⟨b, q, q1, q2, q3, q4, _⟩
      · rw [q.2.2.1]; omega
      · rw [q4]; omega
    rcases set_or h2 with ⟨rfl, rfl⟩ | ⟨hj, h4⟩ <;> rcases set_or h3 with ⟨rfl, rfl⟩ | ⟨hk', h5⟩
    · exact absurd rfl hjl
    · exact fun e => low l T3 h5 e.symm
    · exact low j T2 h4
    · exact h.diff j l T2 T3 hjl h4 h5 h0
  · intro hn
    refine h.nobody fun j T2 h2 => ?_
    by_cases hj : j = i
    · subst hj; rw [hT] at h2; injection h2 with h2; subst h2; exact hI.2.1
    · exact hn j T2 (by rw [List.getElem?_set_ne (Ne.symm hj)]; exact h2)
  · intro j T2 h2 hh
    rcases set_or h2 with ⟨rfl, rfl⟩ | ⟨hj, h2⟩
    · cases hh
    · exact h.one j T2 h2 hh
/-- waiting: a look -/
theorem Inv.look (h : Inv bg k n S Ts came left m) {b q : Nat} {num stays st : Int} {W : Wt} (hT : Ts[i]? = some ⟨some b, W, num, false, stays⟩) (hq1 : left ≤ q) (hq2 : q < came) (hnum : num = (q : Int)) {r : Bool} (hr : r = ((q : Int) == (left : Int))) (h0 : 0 ≤ st) (h5 : st ≤ 6) :
    Inv bg (k + 1) n (S.load 2) (Ts.set i ⟨some b, ⟨wrap64 (bg + (q : Int)), true, r⟩, num, r, st⟩) came left (if r then m + 1 else m) ∧ (r = true → m = left) := by
  have hi := (List.getElem?_eq_some_iff.1 hT).1
  have key : r = true → ∀ (j : Nat) (T : Tk), Ts[j]? = some T → T.holds = false := by
    intro hrt j T hj
    have hql : q = left := by rw [hr] at hrt; have := beq_iff_eq.1 hrt; omega
    cases hh : T.holds
    · rfl
    · exfalso
      by_cases e : i = j
      · subst e; rw [hT] at hj; injection hj with hj; subst hj; cases hh
      rcases h.st j T hj with q' | ⟨b', q', _, _, _, b1, _, b2, _⟩
      · rw [q'.2.1] at hh; cases hh
      · refine h.diff i j _ T e hT hj (by simp only; omega) ?_
        have := b2 hh
        simp only; omega
  refine ⟨⟨by rw [List.length_set]; exact h.len, h.w1, h.w2, h.lec, by have := h.cek; omega, by have := h.tr; rw [(load_ws' S 2).2.1]; omega, by have := h.bad; have := (load_ws' S 2).2.2; omega, ?_, ?_, ?_, ?_⟩, fun hrt => h.nobody (key hrt)⟩
  · intro j T2 h2
    rcases set_or h2 with ⟨rfl, rfl⟩ | ⟨hj, h2⟩
    · exact .inr ⟨b, q, rfl, hq1, hq2, hnum, rfl, fun e => by have e : r = true := e; rw [hr] at e; have := beq_iff_eq.1 e; omega, h0, h5⟩
    · exact h.st j T2 h2
  · intro j l T2 T3 hjl h2 h3 h0
    rcases set_or h2 with ⟨rfl, rfl⟩ | ⟨hj, h4⟩ <;> rcases set_or h3 with ⟨rfl, rfl⟩ | ⟨hk', h5⟩
    · exact absurd rfl hjl
    · exact h.diff j l ⟨some b, W, num, false, stays⟩ T3 hjl hT h5 h0
    · exact h.diff j l T2 ⟨some b, W, num, false, stays⟩ hjl h4 hT h0
    · exact h.diff j l T2 T3 hjl h4 h5 h0
  · intro hn
    have hrf : r = false := hn i _ (List.getElem?_set_self hi)
    rw [hrf]
    refine h.nobody fun j T2 h2 => ?_
    by_cases hj : j = i
    · subst hj; rw [hT] at h2; injection h2 with h2; subst h2; rfl
    · exact hn j T2 (by rw [List.getElem?_set_ne (Ne.symm hj)]; exact h2)
  · intro j T2 h2 hh
    rcases set_or h2 with ⟨rfl, rfl⟩ | ⟨hj, h2⟩
    · have hh : r = true := hh
      rw [hh, if_pos rfl, h.nobody (key hh)]
    · cases hrr : r
      · exact h.one j T2 h2 hh
      · have := key hrr j T2 h2; rw [this] at hh; cases hh
/-- holding: it stays -/
theorem Inv.stay (h : Inv bg k n S Ts came left m) (hT : Ts[i]? = some T) (hH : T.holds = true) (hs : 0 < T.stays) : Inv bg (k + 1) n S (Ts.set i { T with stays := T.stays - 1 }) came left m := by
  refine ⟨by rw [List.length_set]; exact h.len, h.w1, h.w2, h.lec, by have := h.cek; omega, by have := h.tr; omega, by have := h.bad; omega, ?_, ?_, ?_, ?_⟩
  · intro j T2 h2
    rcases set_or h2 with ⟨rfl, rfl⟩ | ⟨hj, h2⟩
    · rcases h.st j T hT with q | ⟨b, q, q1, q2, q3, q4, q5, q6, q7, q8⟩
      · exact absurd q.2.2.2 (by omega)
      · exact .inr ⟨b, q, q1, q2, q3, q4, q5, q6, by show 0 ≤ T.stays - 1; omega, by show T.stays - 1 ≤ 6; omega⟩
    · exact h.st j T2 h2
  · intro j l T2 T3 hjl h2 h3 h0
    rcases set_or h2 with ⟨rfl, rfl⟩ | ⟨hj, h4⟩ <;> rcases set_or h3 with ⟨rfl, rfl⟩ | ⟨hk', h5⟩
    · exact absurd rfl hjl
    · exact h.diff j l T T3 hjl hT h5 h0
    · exact h.diff j l T2 T hjl h4 hT h0
    · exact h.diff j l T2 T3 hjl h4 h5 h0
  · intro hn
    have hi := (List.getElem?_eq_some_iff.1 hT).1
    have : T.holds = false := hn i { T with stays := T.stays - 1 } (List.getElem?_set_self hi)
    rw [hH] at this; cases this
  · intro j T2 h2 hh
    exact h.one i T hT hH
/-- holding: it leaves -/
theorem Inv.leave (h : Inv bg k n S Ts came left m) (hT : Ts[i]? = some T) (hH : T.holds = true) (hp : wrap64 (bg + (left : Int)) ≠ poison) (W : Wt) : Inv bg (k + 1) n (S.add 2 1) (Ts.set i ⟨none, W, -1, false, 0⟩) came (left + 1) m := by
  obtain ⟨a1, a2, a3⟩ := add_ws (i := 2) (y := 1) h.w2 hp
  have e1 : (S.add 2 1).ws = _ := a1
  have hm := h.one i T hT hH
  have hlt : left < came := by
    rcases h.st i T hT with q | ⟨b, q, q1, q2, q3, _⟩
    · rw [q.2.1] at hH; cases hH
    · omega
  have hTl : T.num = (left : Int) := by
    rcases h.st i T hT with q | ⟨b, q, q1, q2, q3, q4, _, q6, _⟩
    · rw [q.2.1] at hH; cases hH
    · have := q6 hH; omega
  have others : ∀ (j : Nat) (T2 : Tk), j ≠ i → Ts[j]? = some T2 → T2.holds = false := by
    intro j T2 hj h2
    cases hh : T2.holds
    · rfl
    · exact absurd (h.only h2 hT hh hH) hj
  refine ⟨by rw [List.length_set]; exact h.len, ?_, ?_, by omega, by have := h.cek; omega, by have := h.tr; rw [show (S.add 2 1).tr.length = _ from a3]; omega, by have := h.bad; rw [show (S.add 2 1).bad = _ from a2]; omega, ?_, ?_, ?_, ?_⟩
  · rw [e1, List.getElem?_set, if_neg (by decide)]; exact h.w1
  · rw [e1, set_get h.w2, wrap_one']; congr 2; omega
  · intro j T2 h2
    rcases set_or h2 with ⟨rfl, rfl⟩ | ⟨hj, h2⟩
    · exact .inl ⟨rfl, rfl, rfl, rfl⟩
    · rcases h.st j T2 h2 with q | ⟨b, q, q1, q2, q3, q4, q5, q6, q7⟩
      · exact .inl q
      · have hne : q ≠ left := fun e => h.diff j i T2 T hj h2 hT (by omega) (by omega)
        exact .inr ⟨b, q, q1, by omega, q3, q4, q5, (fun e => by rw [others j T2 hj h2] at e; cases e), q7⟩
  · intro j l T2 T3 hjl h2 h3 h0
    rcases set_or h2 with ⟨rfl, rfl⟩ | ⟨hj, h4⟩ <;> rcases set_or h3 with ⟨rfl, rfl⟩ | ⟨hk', h5⟩
    · exact absurd rfl hjl
    · exact absurd (show (0 : Int) ≤ -1 from h0) (by decide)
    · show T2.num ≠ -1; omega
    · exact h.diff j l T2 T3 hjl h4 h5 h0
  · intro _; exact hm
  · intro j T2 h2 hh
    rcases set_or h2 with ⟨rfl, rfl⟩ | ⟨hj, h2⟩
    · cases hh
    · rw [others j T2 hj h2] at hh; cases hh
end
end Go.Proofs.Ytkbobgblohohcaa

/- The law LockScript: the scene in memory. -/
import Derived.Test.YtkbobgblohohcaaScB
import Derived.Test.YtkbobgblohohcaaReady
namespace Go.Proofs.Ytkbobgblohohcaa
open Go.RowKit Go.Mm Go.Cells
/-- a waiter, and the document's beside it -/
structure En where
  wb : Nat
  qb : Nat
  l : Nat
  W : Wt
theorem info70 : (Try.prog.info? 70).map (fun i => (i.zero, i.size, i.bytes)) = some (some (.pointer none), 1, 8) := by kernel_rfl
theorem info154 : (Try.prog.info? 154).map (fun i => (i.zero, i.size, i.bytes)) = some (some (.pointer none), 1, 8) := by kernel_rfl
def eW (E : En) : Value := .pointer (some ⟨E.wb, 0, none⟩)
def eQ (E : En) : Value := .pointer (some ⟨E.qb, 0, none⟩)
structure SC (base g r : Nat) (a b : Int) (G : Nat → Prop) (sb lL l0 l1 kb : Nat) (Es : List En) (xW xQ : List Value) (vW vQ : Value) (w : World) : Prop where
  gs : G sb
  gL : G lL
  g0 : G l0
  g1 : G l1
  gk : G kb
  gW : ∀ k, vW.ownBlock = some k → G k
  gQ : ∀ k, vQ.ownBlock = some k → G k
  scene : Blk w sb 87 #[.pointer (some ⟨g, 0, none⟩), .slice (some ⟨lL, 0, none⟩) 2 2, vW, .pointer (some ⟨r, 0, none⟩), .pointer (some ⟨kb, 0, none⟩), vQ]
  locks : Blk w lL 64 #[.pointer (some ⟨l0, 0, none⟩), .pointer (some ⟨l1, 0, none⟩)]
  lk0 : Blk w l0 146 #[.pointer (some ⟨g, 0, none⟩), .int .i64 a, .int .i64 b]
  lk1 : Blk w l1 146 #[.pointer (some ⟨g, 0, none⟩), .int .i64 a, .int .i64 b]
  kk : Blk w kb 148 #[.pointer (some ⟨r, 0, none⟩), .int .i64 a, .int .i64 b]
  rW : w.ownsRow base 70 1 vW xW.length xW
  rQ : w.ownsRow base 154 1 vQ xQ.length xQ
  ent : ∀ (i : Nat) (E : En), Es[i]? = some E → G E.wb ∧ G E.qb ∧ Blk w E.wb 150 #[.pointer (some ⟨lkB l0 l1 E.l, 0, none⟩), .int .i64 E.W.num, .bool E.W.drawn, .bool E.W.holds] ∧ Blk w E.qb 177 #[.pointer (some ⟨kb, 0, none⟩), .int .i64 (stN E.W), .int .i64 E.W.num] ∧ WtOK E.W
  ap : ∀ (i j : Nat) (E E' : En), i ≠ j → Es[i]? = some E → Es[j]? = some E' → E.wb ≠ E'.wb ∧ E.qb ≠ E'.qb
section
variable {base g r : Nat} {a b : Int} {G G' : Nat → Prop} {sb lL l0 l1 kb : Nat} {Es : List En} {xW xQ : List Value} {vW vQ v1 u : Value} {w w' w1 : World}
theorem SC.keep (h : SC base g r a b G sb lL l0 l1 kb Es xW xQ vW vQ w) (hk : ∀ k, G k → w'.heap[k]? = w.heap[k]?) : SC base g r a b G sb lL l0 l1 kb Es xW xQ vW vQ w' :=
  ⟨h.gs, h.gL, h.g0, h.g1, h.gk, h.gW, h.gQ, h.scene.keep (hk _ h.gs), h.locks.keep (hk _ h.gL), h.lk0.keep (hk _ h.g0), h.lk1.keep (hk _ h.g1), h.kk.keep (hk _ h.gk), own_keep h.rW (fun k e => hk k (h.gW k e)), own_keep h.rQ (fun k e => hk k (h.gQ k e)),
    fun i E hE => by
      obtain ⟨p1, p2, p3, p4, p5⟩ := h.ent i E hE
      exact ⟨p1, p2, p3.keep (hk _ p1), p4.keep (hk _ p2), p5⟩, h.ap⟩
theorem SC.grow (h : SC base g r a b G sb lL l0 l1 kb Es xW xQ vW vQ w) (hs : ∀ k, G k → G' k) : SC base g r a b G' sb lL l0 l1 kb Es xW xQ vW vQ w :=
  ⟨hs _ h.gs, hs _ h.gL, hs _ h.g0, hs _ h.g1, hs _ h.gk, fun k e => hs k (h.gW k e), fun k e => hs k (h.gQ k e), h.scene, h.locks, h.lk0, h.lk1, h.kk, h.rW, h.rQ, fun i E hE => ⟨hs _ (h.ent i E hE).1, hs _ (h.ent i E hE).2.1, (h.ent i E hE).2.2⟩, h.ap⟩
/-- a waiter has turned, and the document's -/
theorem SC.turn (h : SC base g r a b G sb lL l0 l1 kb Es (Es.map eW) (Es.map eQ) vW vQ w) {i : Nat} {E : En} {W' : Wt} (hE : Es[i]? = some E) (hk : ∀ k, G k → k ≠ E.wb → k ≠ E.qb → w'.heap[k]? = w.heap[k]?)
    (h1 : Blk w' E.wb 150 #[.pointer (some ⟨lkB l0 l1 E.l, 0, none⟩), .int .i64 W'.num, .bool W'.drawn, .bool W'.holds]) (h2 : Blk w' E.qb 177 #[.pointer (some ⟨kb, 0, none⟩), .int .i64 (stN W'), .int .i64 W'.num]) (ok : WtOK W') :
    SC base g r a b G sb lL l0 l1 kb (Es.set i { E with W := W' }) ((Es.set i { E with W := W' }).map eW) ((Es.set i { E with W := W' }).map eQ) vW vQ w' := by
  obtain ⟨p1, p2, p3, p4, p5⟩ := h.ent i E hE
  have ne : ∀ {k t : Nat} {cs : Array Value}, G k → Blk w k t cs → t ≠ 150 → t ≠ 177 → w'.heap[k]? = w.heap[k]? := fun hg hb n1 n2 => hk _ hg (blk_ne hb p3 n1) (blk_ne hb p4 n2)
  have eW' : (Es.set i { E with W := W' }).map eW = Es.map eW := by
    rw [List.map_set]; exact set_self (by rw [List.getElem?_map, hE]; rfl)
  have eQ' : (Es.set i { E with W := W' }).map eQ = Es.map eQ := by
    rw [List.map_set]; exact set_self (by rw [List.getElem?_map, hE]; rfl)
  rw [eW', eQ']
  refine ⟨h.gs, h.gL, h.g0, h.g1, h.gk, h.gW, h.gQ, h.scene.keep (ne h.gs h.scene (by decide) (by decide)), h.locks.keep (ne h.gL h.locks (by decide) (by decide)), h.lk0.keep (ne h.g0 h.lk0 (by decide) (by decide)), h.lk1.keep (ne h.g1 h.lk1 (by decide) (by decide)), h.kk.keep (ne h.gk h.kk (by decide) (by decide)),
    own_keep h.rW (fun k e => hk k (h.gW k e) (fun e2 => own_ne h.rW p3 (by decide) (e2 ▸ e)) fun e2 => own_ne h.rW p4 (by decide) (e2 ▸ e)), own_keep h.rQ (fun k e => hk k (h.gQ k e) (fun e2 => own_ne h.rQ p3 (by decide) (e2 ▸ e)) fun e2 => own_ne h.rQ p4 (by decide) (e2 ▸ e)), ?_, ?_⟩
  · intro j E2 hE2
    rcases set_or hE2 with ⟨rfl, rfl⟩ | ⟨hj, hE2⟩
    · exact ⟨p1, p2, h1, h2, ok⟩
    · obtain ⟨q1, q2, q3, q4, q5⟩ := h.ent j E2 hE2
      have d := h.ap j i E2 E hj hE2 hE
      exact ⟨q1, q2, q3.keep (hk _ q1 d.1 (blk_ne q3 p4 (by decide))), q4.keep (hk _ q2 (blk_ne q4 p3 (by decide)) d.2), q5⟩
  · intro j k E2 E3 hjk e2 e3
    rcases set_or e2 with ⟨rfl, rfl⟩ | ⟨hj, e4⟩ <;> rcases set_or e3 with ⟨rfl, rfl⟩ | ⟨hk', e5⟩
    · exact absurd rfl hjk
    · exact h.ap j k E E3 hjk hE e5
    · exact h.ap j k E2 E hjk e4 hE
    · exact h.ap j k E2 E3 hjk e4 e5
/-- a waiter comes on the list -/
theorem SC.pushW (h : SC base g r a b G sb lL l0 l1 kb Es xW xQ vW vQ w) (K1 : w1.ownsRow base 70 1 v1 (xW.length + 1) (xW ++ [u])) (K3 : w.grownBy w1 vW.ownBlock) (K4 : ∀ k, v1.ownBlock = some k → vW.ownBlock = some k ∨ w.heap.size ≤ k) :
    SC base g r a b (fun k => G k ∨ (w.heap.size ≤ k ∧ k < w1.heap.size)) sb lL l0 l1 kb Es (xW ++ [u]) xQ v1 vQ (w1.setCell ⟨sb, 2, none⟩ v1) ∧ Fr (fun k => vW.ownBlock = some k ∨ k = sb) w (w1.setCell ⟨sb, 2, none⟩ v1) := by
  have f1 : Fr (fun k => vW.ownBlock = some k) w w1 := Fr.grown K3
  have f2 := Fr.setCell w1 ⟨sb, 2, none⟩ v1
  have hf : Fr (fun k => vW.ownBlock = some k ∨ k = sb) w (w1.setCell ⟨sb, 2, none⟩ v1) := (f1.mono fun _ h => .inl h).trans f2 fun _ _ e => .inr e
  have nv : ∀ {k t : Nat} {cs : Array Value}, Blk w k t cs → t ≠ 70 → vW.ownBlock ≠ some k := fun hb ht => own_ne h.rW hb ht
  have B1 := f1.blk h.scene (nv h.scene (by decide))
  have blk : ∀ {k t : Nat} {cs : Array Value}, Blk w k t cs → t ≠ 70 → t ≠ 87 → Blk (w1.setCell ⟨sb, 2, none⟩ v1) k t cs := fun hb n1 n2 => hf.blk hb fun e => e.elim (fun e => nv hb n1 e) fun e => blk_ne hb h.scene n2 e
  refine ⟨⟨.inl h.gs, .inl h.gL, .inl h.g0, .inl h.g1, .inl h.gk, fun k e => ?_, fun k e => .inl (h.gQ k e), B1.set 2 v1, blk h.locks (by decide) (by decide), blk h.lk0 (by decide) (by decide), blk h.lk1 (by decide) (by decide), blk h.kk (by decide) (by decide), ?_, ?_, fun i E hE => ?_, h.ap⟩, hf⟩
  · rcases K4 k e with h1 | h1
    · exact .inl (h.gW k h1)
    · exact .inr ⟨h1, (own_lt K1 e).2⟩
  · rw [show (xW ++ [u]).length = xW.length + 1 from by simp]
    exact f2.own K1 fun k e (e2 : k = sb) => own_ne K1 B1 (by decide) (e2 ▸ e)
  · exact hf.own h.rQ fun k e hk => hk.elim (fun e2 => own_own_ne h.rQ h.rW (by decide) e e2) fun e2 => own_ne h.rQ h.scene (by decide) (e2 ▸ e)
  · obtain ⟨p1, p2, p3, p4, p5⟩ := h.ent i E hE
    exact ⟨.inl p1, .inl p2, blk p3 (by decide) (by decide), blk p4 (by decide) (by decide), p5⟩
theorem SC.pushQ (h : SC base g r a b G sb lL l0 l1 kb Es xW xQ vW vQ w) (K1 : w1.ownsRow base 154 1 v1 (xQ.length + 1) (xQ ++ [u])) (K3 : w.grownBy w1 vQ.ownBlock) (K4 : ∀ k, v1.ownBlock = some k → vQ.ownBlock = some k ∨ w.heap.size ≤ k) :
    SC base g r a b (fun k => G k ∨ (w.heap.size ≤ k ∧ k < w1.heap.size)) sb lL l0 l1 kb Es xW (xQ ++ [u]) vW v1 (w1.setCell ⟨sb, 5, none⟩ v1) ∧ Fr (fun k => vQ.ownBlock = some k ∨ k = sb) w (w1.setCell ⟨sb, 5, none⟩ v1) := by
  have f1 : Fr (fun k => vQ.ownBlock = some k) w w1 := Fr.grown K3
  have f2 := Fr.setCell w1 ⟨sb, 5, none⟩ v1
  have hf : Fr (fun k => vQ.ownBlock = some k ∨ k = sb) w (w1.setCell ⟨sb, 5, none⟩ v1) := (f1.mono fun _ h => .inl h).trans f2 fun _ _ e => .inr e
  have nv : ∀ {k t : Nat} {cs : Array Value}, Blk w k t cs → t ≠ 154 → vQ.ownBlock ≠ some k := fun hb ht => own_ne h.rQ hb ht
  have B1 := f1.blk h.scene (nv h.scene (by decide))
  have blk : ∀ {k t : Nat} {cs : Array Value}, Blk w k t cs → t ≠ 154 → t ≠ 87 → Blk (w1.setCell ⟨sb, 5, none⟩ v1) k t cs := fun hb n1 n2 => hf.blk hb fun e => e.elim (fun e => nv hb n1 e) fun e => blk_ne hb h.scene n2 e
  refine ⟨⟨.inl h.gs, .inl h.gL, .inl h.g0, .inl h.g1, .inl h.gk, fun k e => .inl (h.gW k e), fun k e => ?_, B1.set 5 v1, blk h.locks (by decide) (by decide), blk h.lk0 (by decide) (by decide), blk h.lk1 (by decide) (by decide), blk h.kk (by decide) (by decide), ?_, ?_, fun i E hE => ?_, h.ap⟩, hf⟩
  · rcases K4 k e with h1 | h1
    · exact .inl (h.gQ k h1)
    · exact .inr ⟨h1, (own_lt K1 e).2⟩
  · exact hf.own h.rW fun k e hk => hk.elim (fun e2 => own_own_ne h.rW h.rQ (by decide) e e2) fun e2 => own_ne h.rW h.scene (by decide) (e2 ▸ e)
  · rw [show (xQ ++ [u]).length = xQ.length + 1 from by simp]
    exact f2.own K1 fun k e (e2 : k = sb) => own_ne K1 B1 (by decide) (e2 ▸ e)
  · obtain ⟨p1, p2, p3, p4, p5⟩ := h.ent i E hE
    exact ⟨.inl p1, .inl p2, blk p3 (by decide) (by decide), blk p4 (by decide) (by decide), p5⟩
/-- both are there -/
theorem SC.come (h : SC base g r a b G sb lL l0 l1 kb Es xW xQ vW vQ w) {E : En} (p1 : G E.wb) (p2 : G E.qb) (p3 : Blk w E.wb 150 #[.pointer (some ⟨lkB l0 l1 E.l, 0, none⟩), .int .i64 E.W.num, .bool E.W.drawn, .bool E.W.holds]) (p4 : Blk w E.qb 177 #[.pointer (some ⟨kb, 0, none⟩), .int .i64 (stN E.W), .int .i64 E.W.num]) (p5 : WtOK E.W)
    (new : ∀ (i : Nat) (E' : En), Es[i]? = some E' → E'.wb ≠ E.wb ∧ E'.qb ≠ E.qb) : SC base g r a b G sb lL l0 l1 kb (Es ++ [E]) xW xQ vW vQ w := by
  have or : ∀ (i : Nat) (E' : En), (Es ++ [E])[i]? = some E' → (i < Es.length ∧ Es[i]? = some E') ∨ (i = Es.length ∧ E' = E) := by
    intro i E' hi
    rcases Nat.lt_or_ge i Es.length with hl | hl
    · rw [List.getElem?_append_left hl] at hi; exact .inl ⟨hl, hi⟩
    · rw [List.getElem?_append_right hl] at hi
      rcases Nat.eq_zero_or_pos (i - Es.length) with h0 | h0
      · rw [h0] at hi; simp at hi; exact .inr ⟨by omega, hi.symm⟩
      · have := (List.getElem?_eq_some_iff.1 hi).1; simp at this; omega
  refine ⟨h.gs, h.gL, h.g0, h.g1, h.gk, h.gW, h.gQ, h.scene, h.locks, h.lk0, h.lk1, h.kk, h.rW, h.rQ, fun i E' hi => ?_, fun i j E1 E2 hij h1 h2 => ?_⟩
  · rcases or i E' hi with ⟨_, h1⟩ | ⟨_, rfl⟩
    · exact h.ent i E' h1
    · exact ⟨p1, p2, p3, p4, p5⟩
  · rcases or i E1 h1 with ⟨_, a1⟩ | ⟨a0, rfl⟩ <;> rcases or j E2 h2 with ⟨_, b1⟩ | ⟨b0, rfl⟩
    · exact h.ap i j E1 E2 hij a1 b1
    · exact new i E1 a1
    · exact ⟨(new j E2 b1).1.symm, (new j E2 b1).2.symm⟩
    · omega
/-- a waiter's place on the lists -/
theorem SC.at (h : SC base g r a b G sb lL l0 l1 kb Es (Es.map eW) (Es.map eQ) vW vQ w) {i : Nat} {E : En} (hE : Es[i]? = some E) : ∃ gW cW gQ cQ, vW = .slice (some ⟨gW, 0, none⟩) Es.length cW ∧ vQ = .slice (some ⟨gQ, 0, none⟩) Es.length cQ ∧ Es.length ≤ cW ∧ Es.length ≤ cQ ∧ G gW ∧ G gQ ∧ gW ≠ E.wb ∧ gW ≠ E.qb ∧ gQ ≠ E.wb ∧ gQ ≠ E.qb ∧
    w.cell? ⟨gW, i, none⟩ = some (.pointer (some ⟨E.wb, 0, none⟩)) ∧ w.cell? ⟨gQ, i, none⟩ = some (.pointer (some ⟨E.qb, 0, none⟩)) := by
  have hi := (List.getElem?_eq_some_iff.1 hE).1
  obtain ⟨p1, p2, p3, p4, p5⟩ := h.ent i E hE
  have rW := h.rW
  have rQ := h.rQ
  rw [List.length_map] at rW rQ
  obtain ⟨gW, cW, e1, c1, _, _, cell1, _⟩ := own_blk rW (by omega)
  obtain ⟨gQ, cQ, e2, c2, _, _, cell2, _⟩ := own_blk rQ (by omega)
  subst e1 e2
  refine ⟨gW, cW, gQ, cQ, rfl, rfl, c1, c2, h.gW _ rfl, h.gQ _ rfl, ?_, ?_, ?_, ?_, cell1 i _ (by rw [List.getElem?_map, hE]; rfl), cell2 i _ (by rw [List.getElem?_map, hE]; rfl)⟩
  · exact fun e => own_ne rW p3 (by decide) (e ▸ rfl)
  · exact fun e => own_ne rW p4 (by decide) (e ▸ rfl)
  · exact fun e => own_ne rQ p3 (by decide) (e ▸ rfl)
  · exact fun e => own_ne rQ p4 (by decide) (e ▸ rfl)
theorem SC.lkG (h : SC base g r a b G sb lL l0 l1 kb Es xW xQ vW vQ w) (i : Nat) : G (lkB l0 l1 i) ∧ Blk w (lkB l0 l1 i) 146 #[.pointer (some ⟨g, 0, none⟩), .int .i64 a, .int .i64 b] := by
  unfold lkB
  split
  · exact ⟨h.g0, h.lk0⟩
  · exact ⟨h.g1, h.lk1⟩
theorem SC.lock (h : SC base g r a b G sb lL l0 l1 kb Es xW xQ vW vQ w) {p : Nat} (hp : p < 2) : w.cell? ⟨lL, p, none⟩ = some (.pointer (some ⟨lkB l0 l1 p, 0, none⟩)) := by
  have := h.locks.cell p
  rw [this]
  match p, hp with
  | 0, _ => rfl
  | 1, _ => rfl
end
/-- the scene behind so many calls -/
def ScS (base g r : Nat) (w0 : World) (a b : Int) (sb lL l0 l1 kb n k : Nat) (w : World) : Prop := ∃ (G : Nat → Prop) (Es : List En) (vW vQ : Value) (S : Cm), SC base g r a b G sb lL l0 l1 kb Es (Es.map eW) (Es.map eQ) vW vQ w ∧ LB base g r k w0 G S S w ∧ S.ws.length = n ∧ S.tr.length ≤ k ∧ S.bad ≤ k ∧ Es.length ≤ k
def ScE (base g r : Nat) (w0 : World) (a b : Int) (sb lL l0 l1 kb n k : Nat) (e : Ending) (w' : World) : Prop := e = .returned (.bool true) ∧ ScS base g r w0 a b sb lL l0 l1 kb n k w'
theorem stepW_ok {a b : Int} {W : Wt} {S : Cm} (h : WtOK W) : WtOK (stepW a b W S).2.1 := by
  unfold stepW
  split
  · exact h
  · split
    · exact fun _ => rfl
    · split
      · exact fun h => by cases h
      · exact h
theorem stepW_le {a b : Int} {W : Wt} {S : Cm} : (stepW a b W S).2.2.tr.length ≤ S.tr.length + 1 ∧ (stepW a b W S).2.2.bad ≤ S.bad + 1 ∧ (stepW a b W S).2.2.ws.length = S.ws.length := by
  obtain ⟨h1, _, _, _⟩ := op_le S b 0 0
  obtain ⟨_, _, _, h4⟩ := op_le S a 1 0
  unfold stepW
  split
  · exact ⟨Nat.le_succ _, Nat.le_succ _, rfl⟩
  · split
    · exact ⟨Nat.le_of_eq h1.1, h1.2.1, h1.2.2⟩
    · exact ⟨Nat.le_of_eq h4.1, h4.2.1, h4.2.2⟩
end Go.Proofs.Ytkbobgblohohcaa

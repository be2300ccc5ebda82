/- Walks: a lock's words; a waiter. -/
import Derived.Test.YtkbobgblohohcaaOne
import Derived.Test.YtkbobgblohohcaaLock
namespace Go.Proofs.Ytkbobgblohohcaa
open Go.RowKit Go.Mm Go.Cells
section
variable {base g : Nat} {w0 w w' w'' : World} {G : Nat → Prop} {K : World → Prop} {S S' : Cm}
theorem HasG.after (h : HasG base g w0 G S w) (hb : Below w.heap.size w w') : HasG base g w0 G S w' ∧ ∀ k, G k → w'.heap[k]? = w.heap[k]? := by
  obtain ⟨F, h1, h2, h3⟩ := h.out
  have hle : base ≤ w.heap.size := by have := h1.lt g h1.fg; omega
  exact ⟨⟨F, h1.below hb, h2.trans (hb.mono hle), fun k hk => ⟨Nat.lt_of_lt_of_le (h3 k hk).1 hb.size, (h3 k hk).2⟩⟩, fun k hk => hb.block k (h3 k hk).1⟩
def lkV (g : Nat) (a b : Int) : Value := .agg #[.pointer (some ⟨g, 0, none⟩), .int .i64 a, .int .i64 b]
set_option maxHeartbeats 1000000 in
theorem draw_any (h : HasG base g w0 G S w) (a b : Int) (hb : S.bad ≤ 4611686018427387904) (hn : (S.tr.length + 1) * 40 ≤ 140737488355328) :
    Calls Try.prog 84 #[.agg #[.pointer (some ⟨g, 0, none⟩), .int .i64 a, .int .i64 b]] w (HEG base g w0 w G (S.add a 1) (.tuple #[.int .i64 (S.look a).1, .int .i64 (S.look a).2])) := by
  have B := (Below.refl w.heap.size w).alloc (Nat.le_refl _) (.cells #[.pointer (some ⟨g, 0, none⟩), .int .i64 a, .int .i64 b] 144)
  have H1 := Mm.hid (h.after B)
  obtain ⟨r, hr⟩ : ∃ r, S.look a = r := ⟨_, rfl⟩
  have L := Mm.hid hr
  rw [hr]
  clear h B hr
  obtain ⟨v, e⟩ := r
  go_enter Try.func84, Try.ntmps84
  go_wp2_with fail
  refine (H1.out.1.op fun F m1 m2 => add_any _ g F S a _ 1 m1 m2 hb hn).mono ?_
  rintro e' w2 ⟨rfl, h2, k2⟩
  rw [L.out]
  have H2 := Mm.hid (And.intro h2 fun k hk => (k2 k hk).trans (H1.out.2 k hk))
  clear h2 k2
  go_wp2
  go_ret2
  exact ⟨rfl, H2.out⟩
set_option maxHeartbeats 1000000 in
theorem served_any (h : HasG base g w0 G S w) (a b : Int) (hb : S.bad ≤ 4611686018427387904) (hn : (S.tr.length + 1) * 40 ≤ 140737488355328) :
    Calls Try.prog 85 #[.agg #[.pointer (some ⟨g, 0, none⟩), .int .i64 a, .int .i64 b]] w (HEG base g w0 w G (S.load b) (.tuple #[.int .i64 (S.look b).1, .int .i64 (S.look b).2])) := by
  have B := (Below.refl w.heap.size w).alloc (Nat.le_refl _) (.cells #[.pointer (some ⟨g, 0, none⟩), .int .i64 a, .int .i64 b] 144)
  have H1 := Mm.hid (h.after B)
  obtain ⟨r, hr⟩ : ∃ r, S.look b = r := ⟨_, rfl⟩
  have L := Mm.hid hr
  rw [hr]
  clear h B hr
  obtain ⟨v, e⟩ := r
  go_enter Try.func85, Try.ntmps85
  go_wp2_with fail
  refine (H1.out.1.op fun F m1 m2 => load_any _ g F S b _ m1 m2 hb hn).mono ?_
  rintro e' w2 ⟨rfl, h2, k2⟩
  rw [L.out]
  have H2 := Mm.hid (And.intro h2 fun k hk => (k2 k hk).trans (H1.out.2 k hk))
  clear h2 k2
  go_wp2
  go_ret2
  exact ⟨rfl, H2.out⟩
/-- a waiter -/
structure Wt where
  num : Int
  drawn : Bool
  holds : Bool
def wtA (lb : Nat) (W : Wt) : Array Value := #[.pointer (some ⟨lb, 0, none⟩), .int .i64 W.num, .bool W.drawn, .bool W.holds]
/-- a step of a waiter: what it is told, what it is then, the memory -/
def stepW (a b : Int) (W : Wt) (S : Cm) : Bool × Wt × Cm :=
  if W.holds then (true, W, S)
  else if W.drawn then ((S.look b).2 == 0 && (S.look b).1 == W.num, ⟨W.num, true, (S.look b).2 == 0 && (S.look b).1 == W.num⟩, S.load b)
  else (false, if (S.look a).2 = 0 then ⟨(S.look a).1, true, false⟩ else W, S.add a 1)
def StepE (base g : Nat) (w0 w : World) (G : Nat → Prop) (wb lb : Nat) (r : Bool) (W : Wt) (S' : Cm) (e : Ending) (w' : World) : Prop :=
  e = .returned (.bool r) ∧ HasG base g w0 G S' w' ∧ Blk w' wb 150 #[.pointer (some ⟨lb, 0, none⟩), .int .i64 W.num, .bool W.drawn, .bool W.holds] ∧ ∀ k, G k → k ≠ wb → w'.heap[k]? = w.heap[k]?
set_option maxRecDepth 100000 in
set_option maxHeartbeats 1000000 in
theorem step_any (h : HasG base g w0 G S w) (a b : Int) (wb lb : Nat) (W : Wt) (hw : G wb) (hwb : base ≤ wb) (hl : G lb) (_ : lb ≠ wb) (hW : Blk w wb 150 #[.pointer (some ⟨lb, 0, none⟩), .int .i64 W.num, .bool W.drawn, .bool W.holds]) (hL : Blk w lb 146 #[.pointer (some ⟨g, 0, none⟩), .int .i64 a, .int .i64 b])
    (hb : S.bad ≤ 4611686018427387904) (hn : (S.tr.length + 1) * 40 ≤ 140737488355328) :
    Calls Try.prog 46 #[.pointer (some ⟨wb, 0, none⟩)] w (StepE base g w0 w G wb lb (stepW a b W S).1 (stepW a b W S).2.1 (stepW a b W S).2.2) := by
  obtain ⟨num, drawn, holds⟩ := W
  simp only at hW
  have H := Mm.hid h
  have HL := Mm.hid hL
  have HW := Mm.hid hW
  have GW := Mm.hid (And.intro hw hl)
  have c0 := hW.cell 0
  have c1 := hW.cell 1
  have c2 := hW.cell 2
  have c3 := hW.cell 3
  have l0 := hL.cell 0
  have l1 := hL.cell 1
  have l2 := hL.cell 2
  simp only [List.getElem?_toArray, List.getElem?_cons_zero, List.getElem?_cons_succ] at c0 c1 c2 c3 l0 l1 l2
  clear h hL hW hw hl
  cases holds
  · cases drawn
    · obtain ⟨r, hr⟩ : ∃ r, S.look a = r := ⟨_, rfl⟩
      have L := Mm.hid hr
      obtain ⟨v, e⟩ := r
      obtain ⟨W', hW'⟩ : ∃ W', (if e = 0 then (⟨v, true, false⟩ : Wt) else ⟨num, false, false⟩) = W' := ⟨_, rfl⟩
      have E : Hid (stepW a b ⟨num, false, false⟩ S = (false, W', S.add a 1)) := by
        show _ = _
        unfold stepW
        rw [hr, ← hW']
        rfl
      have EW := Mm.hid hW'
      clear hW'
      rw [E.out]
      clear hr
      go_enter Try.func46, Try.ntmps46
      go_wp2_with fail
      refine (draw_any H.out a b hb hn).mono ?_
      rintro e' w2 ⟨rfl, h2, k2⟩
      rw [L.out]
      have H2 := Mm.hid h2
      have K2 := Mm.hid k2
      have W2 := Mm.hid (HW.out.keep (k2 _ GW.out.1))
      clear h2 k2 c0 c1 c2 c3 l0 l1 l2
      have c1 : w2.cell? ⟨wb, 1, none⟩ = some (.int .i64 num) := W2.out.cell 1
      have c2 : w2.cell? ⟨wb, 2, none⟩ = some (.bool false) := W2.out.cell 2
      have z1 : w2.frozen? ⟨wb, 1, none⟩ = false := W2.out.free 1
      have z2 : w2.frozen? ⟨wb, 2, none⟩ = false := W2.out.free 2
      by_cases he : e = 0
      · subst he
        have hw' : (⟨v, true, false⟩ : Wt) = W' := EW.out
        subst hw'
        have W3 := Mm.hid ((W2.out.set 1 (.int .i64 v)).set 2 (.bool true))
        have hf := (Fr.setCell w2 ⟨wb, 1, none⟩ (.int .i64 v)).trans (Fr.setCell _ ⟨wb, 2, none⟩ (.bool true)) fun _ _ h => h
        have H3 := Mm.hid (H2.out.write hf fun k (hk : k = wb) => ⟨hk ▸ GW.out.1, by omega⟩)
        have K3 : Hid (∀ k, G k → k ≠ wb → ((w2.setCell ⟨wb, 1, none⟩ (.int .i64 v)).setCell ⟨wb, 2, none⟩ (.bool true)).heap[k]? = w.heap[k]?) := fun k hk hkw => by
          obtain ⟨_, _, _, h3⟩ := H2.out.out
          exact (hf.block k (h3 k hk).1 hkw).trans (K2.out k hk)
        clear hf
        go_wp2
        go_ret
        exact ⟨rfl, H3.out, W3.out, K3.out⟩
      · have heb : (e == 0) = false := beq_eq_false_iff_ne.2 he
        have hw' : (⟨num, false, false⟩ : Wt) = W' := (if_neg he).symm.trans EW.out
        subst hw'
        clear he
        go_wp2
        go_ret
        exact ⟨rfl, H2.out, W2.out, fun k hk _ => K2.out k hk⟩
    · obtain ⟨r, hr⟩ : ∃ r, S.look b = r := ⟨_, rfl⟩
      have L := Mm.hid hr
      obtain ⟨v, e⟩ := r
      obtain ⟨t, ht⟩ : ∃ t, (e == 0 && v == num) = t := ⟨_, rfl⟩
      have E : Hid (stepW a b ⟨num, true, false⟩ S = (t, ⟨num, true, t⟩, S.load b)) := by
        show _ = _
        unfold stepW
        rw [hr, ← ht]
        rfl
      have T := Mm.hid ht
      clear ht
      rw [E.out]
      clear hr
      go_enter Try.func46, Try.ntmps46
      go_wp2_with fail
      refine (served_any H.out a b hb hn).mono ?_
      rintro e' w2 ⟨rfl, h2, k2⟩
      rw [L.out]
      have H2 := Mm.hid h2
      have K2 := Mm.hid k2
      have W2 := Mm.hid (HW.out.keep (k2 _ GW.out.1))
      clear h2 k2 c0 c1 c2 c3 l0 l1 l2
      have c1 : w2.cell? ⟨wb, 1, none⟩ = some (.int .i64 num) := W2.out.cell 1
      have c3 : w2.cell? ⟨wb, 3, none⟩ = some (.bool false) := W2.out.cell 3
      have z3 : w2.frozen? ⟨wb, 3, none⟩ = false := W2.out.free 3
      have W3 := Mm.hid (W2.out.set 3 (.bool t))
      have hf := Fr.setCell w2 ⟨wb, 3, none⟩ (.bool t)
      have H3 := Mm.hid (H2.out.write hf fun k (hk : k = wb) => ⟨hk ▸ GW.out.1, by omega⟩)
      have K3 : Hid (∀ k, G k → k ≠ wb → (w2.setCell ⟨wb, 3, none⟩ (.bool t)).heap[k]? = w.heap[k]?) := fun k hk hkw => by
        obtain ⟨_, _, _, h3⟩ := H2.out.out
        exact (hf.block k (h3 k hk).1 hkw).trans (K2.out k hk)
      have FIN : Hid (StepE base g w0 w G wb lb t ⟨num, true, t⟩ (S.load b) (.returned (.bool t)) (w2.setCell ⟨wb, 3, none⟩ (.bool t))) := ⟨rfl, H3.out, W3.out, K3.out⟩
      clear hf W3 H3 K3 E
      cases he : (e == 0)
      · have ht : t = false := by rw [← T.out, he]; rfl
        subst ht
        go_wp2
        go_ret
        exact FIN.out
      · have ht : (v == num) = t := by rw [← T.out, he]; rfl
        subst ht
        go_wp2
        go_ret
        exact FIN.out
  · have E : Hid (stepW a b ⟨num, drawn, true⟩ S = (true, ⟨num, drawn, true⟩, S)) := rfl
    rw [E.out]
    go_enter Try.func46, Try.ntmps46
    go_wp2
    go_ret
    exact ⟨rfl, H.out, HW.out, fun _ _ _ => rfl⟩
end
end Go.Proofs.Ytkbobgblohohcaa

/- Walks: join, meet, less; what changed. -/
import Derived.Test.YtdfdicmbfgkekaaJoin
namespace Go.Proofs.Ytdfdicmbfgkekaa
open Go.RowKit Go.Mm Go.Bs
theorem Other.below {w w' : World} {a g : Nat} {p : Value} {S T : Nat → Bool} (ho : Other w a g p S T) (hb : Below w.heap.size w w') : Other w' a g p S T := by
  rcases ho with h | h | ⟨b, h, q, h1, h2, h3⟩
  · exact .inl h
  · exact .inr (.inl h)
  · exact .inr (.inr ⟨b, h, q, h1, h2.below hb, h3⟩)
/-- what joining, meeting, taking out leaves -/
def JoinEnds (a g r : Nat) (R S : Nat → Bool) (w : World) (e : Ending) (w' : World) : Prop := e = .returned (.bool (chg R S (nw r))) ∧ SetB w' a g r R ∧ Fr (· = g) w w'
theorem join_any (a g r : Nat) (S T : Nat → Bool) (q : Option Addr) (w : World) (h : SetB w a g r S) (ho : Other w a g (.pointer q) S T) : Calls Try.prog 17 #[.pointer (some ⟨a, 0, none⟩), .pointer q] w (JoinEnds a g r (cup S (cap T (full r))) S w) := by
  have lg := h.ws.lt
  have BL := Mm.hid (((Below.refl w.heap.size w).alloc (Nat.le_refl _) (.cells #[.pointer (some ⟨a, 0, none⟩)] 24)).alloc (by simp) (.cells #[.pointer q] 24))
  have BX : Hid (Boxes ((w.alloc (.cells #[.pointer (some ⟨a, 0, none⟩)] 24)).alloc (.cells #[.pointer q] 24)) a w.heap.size (w.heap.size + 1) (.pointer q)) := by
    refine ⟨?_, ?_⟩
    · exact ((Blk.new w #[.pointer (some ⟨a, 0, none⟩)] 24).keep (Below.heap_alloc _ _ _ (by simp))).cell 0
    · have := (Blk.new (w.alloc (.cells #[.pointer (some ⟨a, 0, none⟩)] 24)) #[.pointer q] 24).cell 0
      rwa [show (w.alloc (.cells #[.pointer (some ⟨a, 0, none⟩)] 24)).heap.size = w.heap.size + 1 from by simp] at this
  have HT := Mm.hid (turn_join a g r w.heap.size (w.heap.size + 1) (cup S (cap T (full r))) S T (.pointer q) _ (h.below BL.out) BX.out (by omega) (by omega) (ho.below BL.out) (fun i hi => by simp [cup, cap, full, h.out i hi]; omega) (fun k _ => by rw [word_and, word_or]))
  have LG := Mm.hid lg
  clear h ho lg
  go_enter Try.func17, Try.ntmps17
  go_wp2_with fail
  refine HT.out.mono ?_
  rintro e w' ⟨rfl, h1, h2, h3⟩
  have fin : JoinEnds a g r (cup S (cap T (full r))) S w (.returned (.bool (chg (cup S (cap T (full r))) S (nw r)))) w' := ⟨rfl, h1, ((Fr.of_below BL.out).mono (fun _ h => h.elim)).trans h2 (fun _ _ h => h)⟩
  have FIN := Mm.hid fin
  clear fin h1 h2 h3
  go_wp2
  go_ret
  exact FIN.out
theorem meet_any (a g r : Nat) (S T : Nat → Bool) (q : Option Addr) (w : World) (h : SetB w a g r S) (ho : Other w a g (.pointer q) S T) : Calls Try.prog 18 #[.pointer (some ⟨a, 0, none⟩), .pointer q] w (JoinEnds a g r (cap S T) S w) := by
  have lg := h.ws.lt
  have BL := Mm.hid (((Below.refl w.heap.size w).alloc (Nat.le_refl _) (.cells #[.pointer (some ⟨a, 0, none⟩)] 24)).alloc (by simp) (.cells #[.pointer q] 24))
  have BX : Hid (Boxes ((w.alloc (.cells #[.pointer (some ⟨a, 0, none⟩)] 24)).alloc (.cells #[.pointer q] 24)) a w.heap.size (w.heap.size + 1) (.pointer q)) := by
    refine ⟨?_, ?_⟩
    · exact ((Blk.new w #[.pointer (some ⟨a, 0, none⟩)] 24).keep (Below.heap_alloc _ _ _ (by simp))).cell 0
    · have := (Blk.new (w.alloc (.cells #[.pointer (some ⟨a, 0, none⟩)] 24)) #[.pointer q] 24).cell 0
      rwa [show (w.alloc (.cells #[.pointer (some ⟨a, 0, none⟩)] 24)).heap.size = w.heap.size + 1 from by simp] at this
  have HT := Mm.hid (turn_meet a g r w.heap.size (w.heap.size + 1) (cap S T) S T (.pointer q) _ (h.below BL.out) BX.out (by omega) (by omega) (ho.below BL.out) (fun i hi => by simp [cap, h.out i hi]) (fun k _ => word_and _ _ _))
  have LG := Mm.hid lg
  clear h ho lg
  go_enter Try.func18, Try.ntmps18
  go_wp2_with fail
  refine HT.out.mono ?_
  rintro e w' ⟨rfl, h1, h2, h3⟩
  have fin : JoinEnds a g r (cap S T) S w (.returned (.bool (chg (cap S T) S (nw r)))) w' := ⟨rfl, h1, ((Fr.of_below BL.out).mono (fun _ h => h.elim)).trans h2 (fun _ _ h => h)⟩
  have FIN := Mm.hid fin
  clear fin h1 h2 h3
  go_wp2
  go_ret
  exact FIN.out
theorem less_any (a g r : Nat) (S T : Nat → Bool) (q : Option Addr) (w : World) (h : SetB w a g r S) (ho : Other w a g (.pointer q) S T) : Calls Try.prog 19 #[.pointer (some ⟨a, 0, none⟩), .pointer q] w (JoinEnds a g r (less S T) S w) := by
  have lg := h.ws.lt
  have BL := Mm.hid (((Below.refl w.heap.size w).alloc (Nat.le_refl _) (.cells #[.pointer (some ⟨a, 0, none⟩)] 24)).alloc (by simp) (.cells #[.pointer q] 24))
  have BX : Hid (Boxes ((w.alloc (.cells #[.pointer (some ⟨a, 0, none⟩)] 24)).alloc (.cells #[.pointer q] 24)) a w.heap.size (w.heap.size + 1) (.pointer q)) := by
    refine ⟨?_, ?_⟩
    · exact ((Blk.new w #[.pointer (some ⟨a, 0, none⟩)] 24).keep (Below.heap_alloc _ _ _ (by simp))).cell 0
    · have := (Blk.new (w.alloc (.cells #[.pointer (some ⟨a, 0, none⟩)] 24)) #[.pointer q] 24).cell 0
      rwa [show (w.alloc (.cells #[.pointer (some ⟨a, 0, none⟩)] 24)).heap.size = w.heap.size + 1 from by simp] at this
  have HT := Mm.hid (turn_less a g r w.heap.size (w.heap.size + 1) (less S T) S T (.pointer q) _ (h.below BL.out) BX.out (by omega) (by omega) (ho.below BL.out) (fun i hi => by simp [less, h.out i hi]) (fun k _ => word_andNot _ _ _))
  have LG := Mm.hid lg
  clear h ho lg
  go_enter Try.func19, Try.ntmps19
  go_wp2_with fail
  refine HT.out.mono ?_
  rintro e w' ⟨rfl, h1, h2, h3⟩
  have fin : JoinEnds a g r (less S T) S w (.returned (.bool (chg (less S T) S (nw r)))) w' := ⟨rfl, h1, ((Fr.of_below BL.out).mono (fun _ h => h.elim)).trans h2 (fun _ _ h => h)⟩
  have FIN := Mm.hid fin
  clear fin h1 h2 h3
  go_wp2
  go_ret
  exact FIN.out
end Go.Proofs.Ytdfdicmbfgkekaa

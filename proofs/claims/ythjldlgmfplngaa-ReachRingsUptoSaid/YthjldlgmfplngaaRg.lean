/- The region of woven's closure that puts a name on three lists, whatever order is drawn: its invariant. -/
import Derived.Test.YthjldlgmfplngaaWb
import Derived.Test.YthjldlgmfplngaaRegInv
namespace Go.Proofs.Ythjldlgmfplngaa
open Go.RowKit Go.Mm Go.Maps Go.Reach Go.WideMaps
/-- a thing more has come up -/
def U1 (U : Nat → Bool) (i : Nat) : Nat → Bool := fun j => if j = i then true else U j
def Y1 (Y : Nat → Value) (i : Nat) (v : Value) : Nat → Value := fun j => if j = i then v else Y j
theorem U1_same (U : Nat → Bool) (i : Nat) : U1 U i i = true := if_pos rfl
theorem U1_ne {U : Nat → Bool} {i j : Nat} (h : j ≠ i) : U1 U i j = U j := if_neg h
theorem Y1_same (Y : Nat → Value) (i : Nat) (v : Value) : Y1 Y i v i = v := if_pos rfl
theorem Y1_ne {Y : Nat → Value} {i j : Nat} {v : Value} (h : j ≠ i) : Y1 Y i v j = Y j := if_neg h
theorem U1_up {U : Nat → Bool} {i j : Nat} (h : U j = true) : U1 U i j = true := by unfold U1; split <;> first | rfl | exact h
theorem U1_of {U : Nat → Bool} {i j : Nat} (hne : j ≠ i) (h : U1 U i j = true) : U j = true := by rwa [U1_ne hne] at h
theorem upF {L : Array Bool} {i : Nat} (h : i < L.size) : (fun j => (L.setIfInBounds i true).getD j false) = U1 (fun j => L.getD j false) i := by
  funext j
  unfold U1
  by_cases e : j = i
  · subst e; rw [if_pos rfl]; exact up_set_same h
  · rw [if_neg e]; exact up_set_ne fun e' => e e'.symm
section
variable (w0 : World) (base wb n : Nat) (v0 v1 v2 : Value) (F : Bool × Nat → Value) (W : Wb ByteArray) (s : ByteArray)
/-- what those that only read must yield -/
def expV (j : Nat) : Option Value :=
  if j = 0 ∨ j = 13 then some (.pointer (some ⟨wb, 0, none⟩)) else if j = 1 then some v0 else if j = 2 then some (.string s)
  else if j = 5 ∨ j = 15 then some (.pointer (some ⟨wb, 1, none⟩)) else if j = 6 then some v1 else if j = 9 ∨ j = 17 then some (.pointer (some ⟨wb, 2, none⟩)) else if j = 10 then some v2 else none
/-- what the boxes hold -/
def expB (j : Nat) : Option (TypeId × Array Value) := if j = 3 then some (9, #[.string s]) else if j = 7 ∨ j = 11 then some (22, #[nilS]) else none
def BoxAt (w : World) (y : Value) (e : TypeId) (cs : Array Value) : Prop := ∃ g, y = .slice (some ⟨g, 0, none⟩) 1 1 ∧ w0.heap.size ≤ g ∧ Blk w g e cs
structure Co1 (y4 : Value) (wa : World) : Prop where
  f : Fr (fun k => v0.ownBlock = some k) w0 wa
  o : wa.ownsRow base 9 1 y4 (n + 1) (strs W.ns ++ [.string s])
structure Co2 (y4 y8 : Value) (wa wc : World) : Prop where
  c : Co1 w0 base n v0 W s y4 wa
  f : Fr (fun k => v1.ownBlock = some k) wa wc
  o : wc.ownsRow base 22 1 y8 (n + 1) (side F true n ++ [nilS])
  k : ∀ k, y8.ownBlock = some k → v1.ownBlock = some k ∨ wa.heap.size ≤ k
structure Co3 (y4 y8 y12 : Value) (wa wc wd : World) : Prop where
  c : Co2 w0 base n v0 v1 F W s y4 y8 wa wc
  f : Fr (fun k => v2.ownBlock = some k) wc wd
  o : wd.ownsRow base 22 1 y12 (n + 1) (side F false n ++ [nilS])
  k : ∀ k, y12.ownBlock = some k → v2.ownBlock = some k ∨ wc.heap.size ≤ k
/-- how far it has come -/
inductive Stg : Bool → Bool → Bool → Bool → Bool → Bool → Value → Value → Value → World → Prop
  | s0 {y4 y8 y12 : Value} {w : World} : Fr (fun _ => False) w0 w → Stg false false false false false false y4 y8 y12 w
  | s1 {y4 y8 y12 : Value} {wa w : World} : Co1 w0 base n v0 W s y4 wa → Fr (fun _ => False) wa w → Stg true false false false false false y4 y8 y12 w
  | s2 {y4 y8 y12 : Value} {wa wc w : World} : Co2 w0 base n v0 v1 F W s y4 y8 wa wc → Fr (fun _ => False) wc w → Stg true true false false false false y4 y8 y12 w
  | s3 {y4 y8 y12 : Value} {wa wc wd w : World} : Co3 w0 base n v0 v1 v2 F W s y4 y8 y12 wa wc wd → Fr (fun _ => False) wd w → Stg true true true false false false y4 y8 y12 w
  | s4 {y4 y8 y12 : Value} {wa wc wd : World} : Co3 w0 base n v0 v1 v2 F W s y4 y8 y12 wa wc wd → Stg true true true true false false y4 y8 y12 (wd.setCell ⟨wb, 0, none⟩ y4)
  | s5 {y4 y8 y12 : Value} {wa wc wd : World} : Co3 w0 base n v0 v1 v2 F W s y4 y8 y12 wa wc wd → Stg true true true true true false y4 y8 y12 ((wd.setCell ⟨wb, 0, none⟩ y4).setCell ⟨wb, 1, none⟩ y8)
  | s6 {y4 y8 y12 : Value} {wa wc wd : World} : Co3 w0 base n v0 v1 v2 F W s y4 y8 y12 wa wc wd → Stg true true true true true true y4 y8 y12 (((wd.setCell ⟨wb, 0, none⟩ y4).setCell ⟨wb, 1, none⟩ y8).setCell ⟨wb, 2, none⟩ y12)
structure RgI (U : Nat → Bool) (Y : Nat → Value) (w : World) : Prop where
  pv : ∀ j v, expV wb v0 v1 v2 s j = some v → U j = true → Y j = v
  bx : ∀ j e cs, expB s j = some (e, cs) → U j = true → U 14 = false → BoxAt w0 w (Y j) e cs
  st : Stg w0 base wb n v0 v1 v2 F W s (U 4) (U 8) (U 12) (U 14) (U 16) (U 18) (Y 4) (Y 8) (Y 12) w
  d8 : U 8 = true → U 7 = true
  d12 : U 12 = true → U 11 = true
  d14 : U 14 = true → U 1 = true ∧ U 6 = true ∧ U 10 = true ∧ U 3 = true ∧ U 7 = true ∧ U 11 = true
end
section
variable {w0 : World} {base wb n : Nat} {v0 v1 v2 : Value} {F : Bool × Nat → Value} {W : Wb ByteArray} {s : ByteArray} {U : Nat → Bool} {Y : Nat → Value} {w w' : World}
theorem Stg.fr {b4 b8 b12 : Bool} {b16 b18 : Bool} {y4 y8 y12 : Value} (h : Stg w0 base wb n v0 v1 v2 F W s b4 b8 b12 false b16 b18 y4 y8 y12 w) (hf : Fr (fun _ => False) w w') : Stg w0 base wb n v0 v1 v2 F W s b4 b8 b12 false b16 b18 y4 y8 y12 w' := by
  cases h with
  | s0 f => exact .s0 (f.trans hf fun _ _ h => h)
  | s1 c f => exact .s1 c (f.trans hf fun _ _ h => h)
  | s2 c f => exact .s2 c (f.trans hf fun _ _ h => h)
  | s3 c f => exact .s3 c (f.trans hf fun _ _ h => h)
/-- the three lists' box, while nothing is stored -/
theorem Stg.box {b4 b8 b12 b16 b18 : Bool} {y4 y8 y12 : Value} (hW : WebB base wb n v0 v1 v2 F W w0) (h : Stg w0 base wb n v0 v1 v2 F W s b4 b8 b12 false b16 b18 y4 y8 y12 w) : Blk w wb 83 #[v0, v1, v2] := by
  have n0 : v0.ownBlock ≠ some wb := own_ne hW.nm hW.box (by decide)
  have n1 : v1.ownBlock ≠ some wb := own_ne hW.r1 hW.box (by decide)
  have n2 : v2.ownBlock ≠ some wb := own_ne hW.r2 hW.box (by decide)
  cases h with
  | s0 f => exact f.blk hW.box fun h => h
  | s1 c f => exact f.blk (c.f.blk hW.box n0) fun h => h
  | s2 c f => exact f.blk (c.f.blk (c.c.f.blk hW.box n0) n1) fun h => h
  | s3 c f => exact f.blk (c.f.blk (c.c.f.blk (c.c.c.f.blk hW.box n0) n1) n2) fun h => h
theorem BoxAt.fr {T : Nat → Prop} {y : Value} {e : TypeId} {cs : Array Value} (h : BoxAt w0 w y e cs) (hf : Fr T w w') (hT : ∀ k, T k → k < w0.heap.size) : BoxAt w0 w' y e cs := by
  obtain ⟨g, e1, hg, b⟩ := h
  exact ⟨g, e1, hg, hf.blk b fun ht => by have := hT g ht; omega⟩
theorem expV_st {j : Nat} {v : Value} (h : expV wb v0 v1 v2 s j = some v) : j ≠ 4 ∧ j ≠ 8 ∧ j ≠ 12 ∧ j ≠ 14 ∧ j ≠ 16 ∧ j ≠ 18 ∧ j ≠ 3 ∧ j ≠ 7 ∧ j ≠ 11 := by
  unfold expV at h
  refine ⟨?_, ?_, ?_, ?_, ?_, ?_, ?_, ?_, ?_⟩ <;> rintro rfl <;> simp at h
theorem expB_st {j : Nat} {p : TypeId × Array Value} (h : expB s j = some p) : j = 3 ∨ j = 7 ∨ j = 11 := by
  unfold expB at h
  by_cases h3 : j = 3
  · exact .inl h3
  · rw [if_neg h3] at h
    by_cases h7 : j = 7 ∨ j = 11
    · exact .inr h7
    · rw [if_neg h7] at h; cases h
/-- one that only reads -/
theorem RgI.pure (h : RgI w0 base wb n v0 v1 v2 F W s U Y w) {i : Nat} {v : Value} (he : expV wb v0 v1 v2 s i = some v) : RgI w0 base wb n v0 v1 v2 F W s (U1 U i) (Y1 Y i v) w := by
  obtain ⟨a4, a8, a12, a14, a16, a18, a3, a7, a11⟩ := expV_st he
  refine ⟨fun j u hj hU => ?_, fun j e cs hj hU h14 => ?_, ?_, fun hU => ?_, fun hU => ?_, fun hU => ?_⟩
  · by_cases e : j = i
    · subst e; rw [Y1_same]; rw [he] at hj; injection hj
    · rw [Y1_ne e]; exact h.pv j u hj (U1_of e hU)
  · have en : j ≠ i := by rcases expB_st hj with rfl | rfl | rfl <;> omega
    rw [Y1_ne en]
    exact h.bx j e _ hj (U1_of en hU) (by rwa [U1_ne (Ne.symm a14)] at h14)
  · rw [U1_ne (Ne.symm a4), U1_ne (Ne.symm a8), U1_ne (Ne.symm a12), U1_ne (Ne.symm a14), U1_ne (Ne.symm a16), U1_ne (Ne.symm a18), Y1_ne (Ne.symm a4), Y1_ne (Ne.symm a8), Y1_ne (Ne.symm a12)]
    exact h.st
  · exact U1_up (h.d8 (U1_of (Ne.symm a8) hU))
  · exact U1_up (h.d12 (U1_of (Ne.symm a12) hU))
  · obtain ⟨q1, q2, q3, q4, q5, q6⟩ := h.d14 (U1_of (Ne.symm a14) hU)
    exact ⟨U1_up q1, U1_up q2, U1_up q3, U1_up q4, U1_up q5, U1_up q6⟩
/-- one that makes a box -/
theorem RgI.box (h : RgI w0 base wb n v0 v1 v2 F W s U Y w) {i : Nat} {e : TypeId} {cs : Array Value} (he : expB s i = some (e, cs)) (hi : U i = false) (hw : w0.heap.size ≤ w.heap.size) : RgI w0 base wb n v0 v1 v2 F W s (U1 U i) (Y1 Y i (.slice (some ⟨w.heap.size, 0, none⟩) 1 1)) (w.alloc (.cells cs e)) := by
  have hi3 := expB_st he
  have h14 : U 14 = false := by
    cases hc : U 14 with
    | false => rfl
    | true =>
      obtain ⟨_, _, _, q4, q5, q6⟩ := h.d14 hc
      rcases hi3 with rfl | rfl | rfl
      · rw [q4] at hi; cases hi
      · rw [q5] at hi; cases hi
      · rw [q6] at hi; cases hi
  have ne : ∀ k, k ≠ 3 → k ≠ 7 → k ≠ 11 → k ≠ i := fun k a b c => by rcases hi3 with rfl | rfl | rfl <;> assumption
  have hf := Fr.alloc (fun _ => False) w (.cells cs e)
  refine ⟨fun j u hj hU => ?_, fun j e' cs' hj hU _ => ?_, ?_, fun hU => ?_, fun hU => ?_, fun hU => ?_⟩
  · obtain ⟨_, _, _, _, _, _, a3, a7, a11⟩ := expV_st hj
    rw [Y1_ne (ne j a3 a7 a11)]
    exact h.pv j u hj (U1_of (ne j a3 a7 a11) hU)
  · by_cases ej : j = i
    · subst ej
      rw [he] at hj
      injection hj with hj
      injection hj with h1 h2
      subst h1 h2
      rw [Y1_same]
      exact ⟨_, rfl, hw, Blk.new w _ _⟩
    · rw [Y1_ne ej]
      exact (h.bx j e' cs' hj (U1_of ej hU) h14).fr hf fun _ h => h.elim
  · have hs := h.st
    rw [h14] at hs
    rw [U1_ne (ne 4 (by decide) (by decide) (by decide)), U1_ne (ne 8 (by decide) (by decide) (by decide)), U1_ne (ne 12 (by decide) (by decide) (by decide)), U1_ne (ne 14 (by decide) (by decide) (by decide)), U1_ne (ne 16 (by decide) (by decide) (by decide)), U1_ne (ne 18 (by decide) (by decide) (by decide)), Y1_ne (ne 4 (by decide) (by decide) (by decide)), Y1_ne (ne 8 (by decide) (by decide) (by decide)), Y1_ne (ne 12 (by decide) (by decide) (by decide)), h14]
    exact hs.fr hf
  · exact U1_up (h.d8 (U1_of (ne 8 (by decide) (by decide) (by decide)) hU))
  · exact U1_up (h.d12 (U1_of (ne 12 (by decide) (by decide) (by decide)) hU))
  · obtain ⟨q1, q2, q3, q4, q5, q6⟩ := h.d14 (U1_of (ne 14 (by decide) (by decide) (by decide)) hU)
    exact ⟨U1_up q1, U1_up q2, U1_up q3, U1_up q4, U1_up q5, U1_up q6⟩
/-- one that changes the stage -/
theorem RgI.stage (h : RgI w0 base wb n v0 v1 v2 F W s U Y w) {i : Nat} {v : Value} (hi : i = 4 ∨ i = 8 ∨ i = 12 ∨ i = 14 ∨ i = 16 ∨ i = 18) {T : Nat → Prop} (hf : U1 U i 14 = false → Fr T w w') (hT : ∀ k, T k → k < w0.heap.size)
    (hst : Stg w0 base wb n v0 v1 v2 F W s (U1 U i 4) (U1 U i 8) (U1 U i 12) (U1 U i 14) (U1 U i 16) (U1 U i 18) (Y1 Y i v 4) (Y1 Y i v 8) (Y1 Y i v 12) w') (h8 : i = 8 → U 7 = true) (h12 : i = 12 → U 11 = true) (h14 : i = 14 → U 1 = true ∧ U 6 = true ∧ U 10 = true ∧ U 3 = true ∧ U 7 = true ∧ U 11 = true) :
    RgI w0 base wb n v0 v1 v2 F W s (U1 U i) (Y1 Y i v) w' := by
  refine ⟨fun j u hj hU => ?_, fun j e' cs' hj hU hb => ?_, hst, fun hU => ?_, fun hU => ?_, fun hU => ?_⟩
  · obtain ⟨a4, a8, a12, a14, a16, a18, _⟩ := expV_st hj
    have e : j ≠ i := by rcases hi with rfl | rfl | rfl | rfl | rfl | rfl <;> assumption
    rw [Y1_ne e]
    exact h.pv j u hj (U1_of e hU)
  · have e : j ≠ i := by rcases expB_st hj with rfl | rfl | rfl <;> rcases hi with rfl | rfl | rfl | rfl | rfl | rfl <;> decide
    rw [Y1_ne e]
    have h14' : U 14 = false := by
      cases hc : U 14 with
      | false => rfl
      | true => rw [U1_up hc] at hb; cases hb
    exact (h.bx j e' cs' hj (U1_of e hU) h14').fr (hf hb) hT
  · by_cases e : i = 8
    · exact U1_up (h8 e)
    · exact U1_up (h.d8 (U1_of (Ne.symm e) hU))
  · by_cases e : i = 12
    · exact U1_up (h12 e)
    · exact U1_up (h.d12 (U1_of (Ne.symm e) hU))
  · by_cases e : i = 14
    · obtain ⟨q1, q2, q3, q4, q5, q6⟩ := h14 e
      exact ⟨U1_up q1, U1_up q2, U1_up q3, U1_up q4, U1_up q5, U1_up q6⟩
    · obtain ⟨q1, q2, q3, q4, q5, q6⟩ := h.d14 (U1_of (Ne.symm e) hU)
      exact ⟨U1_up q1, U1_up q2, U1_up q3, U1_up q4, U1_up q5, U1_up q6⟩
section
variable {b4 b8 b12 b14 b16 b18 : Bool} {y4 y8 y12 : Value}
theorem Stg.at0 (h : Stg w0 base wb n v0 v1 v2 F W s b4 b8 b12 b14 b16 b18 y4 y8 y12 w) (e : b4 = false) : b8 = false ∧ b12 = false ∧ b14 = false ∧ b16 = false ∧ b18 = false ∧ Fr (fun _ => False) w0 w := by
  cases h with
  | s0 f => exact ⟨rfl, rfl, rfl, rfl, rfl, f⟩
  | s1 _ _ => cases e
  | s2 _ _ => cases e
  | s3 _ _ => cases e
  | s4 _ => cases e
  | s5 _ => cases e
  | s6 _ => cases e
theorem Stg.at1 (h : Stg w0 base wb n v0 v1 v2 F W s b4 b8 b12 b14 b16 b18 y4 y8 y12 w) (e : b4 = true) (e2 : b8 = false) : b12 = false ∧ b14 = false ∧ b16 = false ∧ b18 = false ∧ ∃ wa, Co1 w0 base n v0 W s y4 wa ∧ Fr (fun _ => False) wa w := by
  cases h with
  | s0 f => cases e
  | s1 c f => exact ⟨rfl, rfl, rfl, rfl, _, c, f⟩
  | s2 _ _ => cases e2
  | s3 _ _ => cases e2
  | s4 _ => cases e2
  | s5 _ => cases e2
  | s6 _ => cases e2
theorem Stg.at2 (h : Stg w0 base wb n v0 v1 v2 F W s b4 b8 b12 b14 b16 b18 y4 y8 y12 w) (e : b8 = true) (e2 : b12 = false) : b4 = true ∧ b14 = false ∧ b16 = false ∧ b18 = false ∧ ∃ wa wc, Co2 w0 base n v0 v1 F W s y4 y8 wa wc ∧ Fr (fun _ => False) wc w := by
  cases h with
  | s0 f => cases e
  | s1 c f => cases e
  | s2 c f => exact ⟨rfl, rfl, rfl, rfl, _, _, c, f⟩
  | s3 _ _ => cases e2
  | s4 _ => cases e2
  | s5 _ => cases e2
  | s6 _ => cases e2
theorem Stg.at3 (h : Stg w0 base wb n v0 v1 v2 F W s b4 b8 b12 b14 b16 b18 y4 y8 y12 w) (e : b12 = true) (e2 : b14 = false) : b4 = true ∧ b8 = true ∧ b16 = false ∧ b18 = false ∧ ∃ wa wc wd, Co3 w0 base n v0 v1 v2 F W s y4 y8 y12 wa wc wd ∧ Fr (fun _ => False) wd w := by
  cases h with
  | s0 f => cases e
  | s1 c f => cases e
  | s2 c f => cases e
  | s3 c f => exact ⟨rfl, rfl, rfl, rfl, _, _, _, c, f⟩
  | s4 _ => cases e2
  | s5 _ => cases e2
  | s6 _ => cases e2
theorem Stg.at4 (h : Stg w0 base wb n v0 v1 v2 F W s b4 b8 b12 b14 b16 b18 y4 y8 y12 w) (e : b14 = true) (e2 : b16 = false) : b4 = true ∧ b8 = true ∧ b12 = true ∧ b18 = false ∧ ∃ wa wc wd, Co3 w0 base n v0 v1 v2 F W s y4 y8 y12 wa wc wd ∧ w = wd.setCell ⟨wb, 0, none⟩ y4 := by
  cases h with
  | s0 f => cases e
  | s1 c f => cases e
  | s2 c f => cases e
  | s3 c f => cases e
  | s4 c => exact ⟨rfl, rfl, rfl, rfl, _, _, _, c, rfl⟩
  | s5 _ => cases e2
  | s6 _ => cases e2
theorem Stg.at5 (h : Stg w0 base wb n v0 v1 v2 F W s b4 b8 b12 b14 b16 b18 y4 y8 y12 w) (e : b16 = true) (e2 : b18 = false) : b4 = true ∧ b8 = true ∧ b12 = true ∧ b14 = true ∧ ∃ wa wc wd, Co3 w0 base n v0 v1 v2 F W s y4 y8 y12 wa wc wd ∧ w = (wd.setCell ⟨wb, 0, none⟩ y4).setCell ⟨wb, 1, none⟩ y8 := by
  cases h with
  | s0 f => cases e
  | s1 c f => cases e
  | s2 c f => cases e
  | s3 c f => cases e
  | s4 c => cases e
  | s5 c => exact ⟨rfl, rfl, rfl, rfl, _, _, _, c, rfl⟩
  | s6 _ => cases e2
theorem Stg.at6 (h : Stg w0 base wb n v0 v1 v2 F W s b4 b8 b12 b14 b16 b18 y4 y8 y12 w) (e : b18 = true) : ∃ wa wc wd, Co3 w0 base n v0 v1 v2 F W s y4 y8 y12 wa wc wd ∧ w = ((wd.setCell ⟨wb, 0, none⟩ y4).setCell ⟨wb, 1, none⟩ y8).setCell ⟨wb, 2, none⟩ y12 := by
  cases h with
  | s0 f => cases e
  | s1 c f => cases e
  | s2 c f => cases e
  | s3 c f => cases e
  | s4 c => cases e
  | s5 c => cases e
  | s6 c => exact ⟨_, _, _, c, rfl⟩
end
theorem Stg.size {b4 b8 b12 b14 b16 b18 : Bool} {y4 y8 y12 : Value} (h : Stg w0 base wb n v0 v1 v2 F W s b4 b8 b12 b14 b16 b18 y4 y8 y12 w) : w0.heap.size ≤ w.heap.size := by
  have c3 : ∀ {wa wc wd : World}, Co3 w0 base n v0 v1 v2 F W s y4 y8 y12 wa wc wd → w0.heap.size ≤ wd.heap.size := fun c => Nat.le_trans (Nat.le_trans c.c.c.f.size c.c.f.size) c.f.size
  cases h with
  | s0 f => exact f.size
  | s1 c f => exact Nat.le_trans c.f.size f.size
  | s2 c f => exact Nat.le_trans (Nat.le_trans c.c.f.size c.f.size) f.size
  | s3 c f => exact Nat.le_trans (c3 c) f.size
  | s4 c => exact Nat.le_trans (c3 c) (Fr.setCell _ _ _).size
  | s5 c => exact Nat.le_trans (Nat.le_trans (c3 c) (Fr.setCell _ _ _).size) (Fr.setCell _ _ _).size
  | s6 c => exact Nat.le_trans (Nat.le_trans (Nat.le_trans (c3 c) (Fr.setCell _ _ _).size) (Fr.setCell _ _ _).size) (Fr.setCell _ _ _).size
theorem RgI.app4 (hW : WebB base wb n v0 v1 v2 F W w0) (h : RgI w0 base wb n v0 v1 v2 F W s U Y w) (h4 : U 4 = false) : w.ownsRow base 9 1 v0 n (strs W.ns) ∧ w0.heap.size ≤ w.heap.size ∧ ∀ u wa, wa.ownsRow base 9 1 u (n + 1) (strs W.ns ++ [.string s]) → w.grownBy wa v0.ownBlock → RgI w0 base wb n v0 v1 v2 F W s (U1 U 4) (Y1 Y 4 u) wa := by
  obtain ⟨e8, e12, e14, e16, e18, f⟩ := h.st.at0 h4
  refine ⟨f.own hW.nm fun _ _ h => h, f.size, fun u wa ho hg => ?_⟩
  refine h.stage (.inl rfl) (fun _ => Fr.grown hg) (fun k hk => (own_lt hW.nm hk).2) ?_ (fun e => absurd e (by decide)) (fun e => absurd e (by decide)) (fun e => absurd e (by decide))
  rw [U1_same, U1_ne (by decide), U1_ne (by decide), U1_ne (by decide), U1_ne (by decide), U1_ne (by decide), e8, e12, e14, e16, e18, Y1_same, Y1_ne (by decide), Y1_ne (by decide)]
  exact .s1 (wa := wa) ⟨(f.mono (T := fun k => v0.ownBlock = some k) fun _ h => h.elim).trans (Fr.grown hg) fun _ _ e => e, ho⟩ (Fr.refl _ _)
theorem RgI.app8 (hW : WebB base wb n v0 v1 v2 F W w0) (h : RgI w0 base wb n v0 v1 v2 F W s U Y w) (h4 : U 4 = true) (h8 : U 8 = false) (h7 : U 7 = true) : w.ownsRow base 22 1 v1 n (side F true n) ∧ w0.heap.size ≤ w.heap.size ∧ ∀ u wa, wa.ownsRow base 22 1 u (n + 1) (side F true n ++ [nilS]) → w.grownBy wa v1.ownBlock → (∀ k, u.ownBlock = some k → v1.ownBlock = some k ∨ w.heap.size ≤ k) → RgI w0 base wb n v0 v1 v2 F W s (U1 U 8) (Y1 Y 8 u) wa := by
  obtain ⟨e12, e14, e16, e18, wp, c, f⟩ := h.st.at1 h4 h8
  have o1 := f.own (c.f.own hW.r1 fun b hb e => own_own_ne hW.r1 hW.nm (by decide) hb e) fun _ _ h => h
  refine ⟨o1, Nat.le_trans c.f.size f.size, fun u wa ho hg hk => ?_⟩
  refine h.stage (.inr (.inl rfl)) (fun _ => Fr.grown hg) (fun k hk => (own_lt hW.r1 hk).2) ?_ (fun _ => h7) (fun e => absurd e (by decide)) (fun e => absurd e (by decide))
  rw [U1_same, U1_ne (by decide), U1_ne (by decide), U1_ne (by decide), U1_ne (by decide), U1_ne (by decide), h4, e12, e14, e16, e18, Y1_same, Y1_ne (by decide), Y1_ne (by decide)]
  exact .s2 (wa := wp) (wc := wa) ⟨c, (f.mono (T := fun k => v1.ownBlock = some k) fun _ h => h.elim).trans (Fr.grown hg) fun _ _ e => e, ho, fun k hu => (hk k hu).imp id fun h => Nat.le_trans f.size h⟩ (Fr.refl _ _)
theorem RgI.app12 (hW : WebB base wb n v0 v1 v2 F W w0) (h : RgI w0 base wb n v0 v1 v2 F W s U Y w) (h8 : U 8 = true) (h12 : U 12 = false) (h11 : U 11 = true) : w.ownsRow base 22 1 v2 n (side F false n) ∧ w0.heap.size ≤ w.heap.size ∧ ∀ u wa, wa.ownsRow base 22 1 u (n + 1) (side F false n ++ [nilS]) → w.grownBy wa v2.ownBlock → (∀ k, u.ownBlock = some k → v2.ownBlock = some k ∨ w.heap.size ≤ k) → RgI w0 base wb n v0 v1 v2 F W s (U1 U 12) (Y1 Y 12 u) wa := by
  obtain ⟨e4, e14, e16, e18, wp, wq, c, f⟩ := h.st.at2 h8 h12
  have o1 := f.own (c.f.own (c.c.f.own hW.r2 fun b hb e => own_own_ne hW.r2 hW.nm (by decide) hb e) fun b hb e => hW.ap12 b e hb) fun _ _ h => h
  refine ⟨o1, Nat.le_trans (Nat.le_trans c.c.f.size c.f.size) f.size, fun u wa ho hg hk => ?_⟩
  refine h.stage (.inr (.inr (.inl rfl))) (fun _ => Fr.grown hg) (fun k hk => (own_lt hW.r2 hk).2) ?_ (fun e => absurd e (by decide)) (fun _ => h11) (fun e => absurd e (by decide))
  rw [U1_same, U1_ne (by decide), U1_ne (by decide), U1_ne (by decide), U1_ne (by decide), U1_ne (by decide), e4, h8, e14, e16, e18, Y1_same, Y1_ne (by decide), Y1_ne (by decide)]
  exact .s3 (wa := wp) (wc := wq) (wd := wa) ⟨c, (f.mono (T := fun k => v2.ownBlock = some k) fun _ h => h.elim).trans (Fr.grown hg) fun _ _ e => e, ho, fun k hu => (hk k hu).imp id fun h => Nat.le_trans f.size h⟩ (Fr.refl _ _)
theorem Co3.box {y4 y8 y12 : Value} {wa wc wd : World} (hW : WebB base wb n v0 v1 v2 F W w0) (c : Co3 w0 base n v0 v1 v2 F W s y4 y8 y12 wa wc wd) : Blk wd wb 83 #[v0, v1, v2] :=
  c.f.blk (c.c.f.blk (c.c.c.f.blk hW.box (own_ne hW.nm hW.box (by decide))) (own_ne hW.r1 hW.box (by decide))) (own_ne hW.r2 hW.box (by decide))
theorem RgI.st14 (hW : WebB base wb n v0 v1 v2 F W w0) (h : RgI w0 base wb n v0 v1 v2 F W s U Y w) (h12 : U 12 = true) (h14 : U 14 = false) (hd : U 1 = true ∧ U 6 = true ∧ U 10 = true ∧ U 3 = true) : Blk w wb 83 #[v0, v1, v2] ∧ (∃ B c, Y 4 = .slice B (n + 1) c) ∧ RgI w0 base wb n v0 v1 v2 F W s (U1 U 14) (Y1 Y 14 undef) (w.setCell ⟨wb, 0, none⟩ (Y 4)) := by
  obtain ⟨e4, e8, e16, e18, wa, wc, wd, c, f⟩ := h.st.at3 h12 h14
  refine ⟨f.blk (c.box hW) fun h => h, (by obtain ⟨B, c', e, _⟩ := own_slice c.c.c.o; exact ⟨B, c', e⟩), ?_⟩
  refine h.stage (T := fun _ => False) (.inr (.inr (.inr (.inl rfl)))) (fun hb => by rw [U1_same] at hb; cases hb) (fun k hk => hk.elim) ?_ (fun e => absurd e (by decide)) (fun e => absurd e (by decide)) (fun _ => ⟨hd.1, hd.2.1, hd.2.2.1, hd.2.2.2, h.d8 e8, h.d12 h12⟩)
  rw [U1_same, U1_ne (by decide), U1_ne (by decide), U1_ne (by decide), U1_ne (by decide), U1_ne (by decide), e4, e8, h12, e16, e18, Y1_ne (by decide), Y1_ne (by decide), Y1_ne (by decide)]
  exact .s4 (wa := wa) (wc := wc) (wd := w) ⟨c.c, c.f.trans f fun _ _ h => h.elim, f.own c.o fun _ _ h => h, c.k⟩
theorem RgI.st16 (hW : WebB base wb n v0 v1 v2 F W w0) (h : RgI w0 base wb n v0 v1 v2 F W s U Y w) (h14 : U 14 = true) (h16 : U 16 = false) : Blk w wb 83 #[Y 4, v1, v2] ∧ (∃ B c, Y 8 = .slice B (n + 1) c) ∧ RgI w0 base wb n v0 v1 v2 F W s (U1 U 16) (Y1 Y 16 undef) (w.setCell ⟨wb, 1, none⟩ (Y 8)) := by
  obtain ⟨e4, e8, e12, e18, wa, wc, wd, c, rfl⟩ := h.st.at4 h14 h16
  refine ⟨(c.box hW).set 0 (Y 4), (by obtain ⟨B, c', e, _⟩ := own_slice c.c.o; exact ⟨B, c', e⟩), ?_⟩
  refine h.stage (T := fun _ => False) (.inr (.inr (.inr (.inr (.inl rfl))))) (fun hb => by rw [U1_ne (by decide), h14] at hb; cases hb) (fun k hk => hk.elim) ?_ (fun e => absurd e (by decide)) (fun e => absurd e (by decide)) (fun e => absurd e (by decide))
  rw [U1_same, U1_ne (by decide), U1_ne (by decide), U1_ne (by decide), U1_ne (by decide), U1_ne (by decide), e4, e8, e12, h14, e18, Y1_ne (by decide), Y1_ne (by decide), Y1_ne (by decide)]
  exact .s5 c
theorem RgI.st18 (hW : WebB base wb n v0 v1 v2 F W w0) (h : RgI w0 base wb n v0 v1 v2 F W s U Y w) (h16 : U 16 = true) (h18 : U 18 = false) : Blk w wb 83 #[Y 4, Y 8, v2] ∧ (∃ B c, Y 12 = .slice B (n + 1) c) ∧ RgI w0 base wb n v0 v1 v2 F W s (U1 U 18) (Y1 Y 18 undef) (w.setCell ⟨wb, 2, none⟩ (Y 12)) := by
  obtain ⟨e4, e8, e12, e14, wa, wc, wd, c, rfl⟩ := h.st.at5 h16 h18
  refine ⟨((c.box hW).set 0 (Y 4)).set 1 (Y 8), (by obtain ⟨B, c', e, _⟩ := own_slice c.o; exact ⟨B, c', e⟩), ?_⟩
  refine h.stage (T := fun _ => False) (.inr (.inr (.inr (.inr (.inr rfl))))) (fun hb => by rw [U1_ne (by decide), e14] at hb; cases hb) (fun k hk => hk.elim) ?_ (fun e => absurd e (by decide)) (fun e => absurd e (by decide)) (fun e => absurd e (by decide))
  rw [U1_same, U1_ne (by decide), U1_ne (by decide), U1_ne (by decide), U1_ne (by decide), U1_ne (by decide), e4, e8, e12, e14, h16, Y1_ne (by decide), Y1_ne (by decide), Y1_ne (by decide)]
  exact .s6 c
/-- at the end -/
theorem RgI.fin (hW : WebB base wb n v0 v1 v2 F W w0) (h : RgI w0 base wb n v0 v1 v2 F W s U Y w) (h18 : U 18 = true) : WebB base wb (n + 1) (Y 4) (Y 8) (Y 12) F { W with ns := W.ns ++ [s] } w ∧ Fr (fun k => WebG wb v0 v1 v2 F k) w0 w := by
  obtain ⟨wa, wc, wd, c, rfl⟩ := h.st.at6 h18
  exact hW.name c.c.c.f c.c.c.o c.c.f c.c.o c.c.k c.f c.o c.k
end
end Go.Proofs.Ythjldlgmfplngaa

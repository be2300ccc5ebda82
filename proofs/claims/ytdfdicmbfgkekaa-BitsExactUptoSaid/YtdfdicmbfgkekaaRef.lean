/- Walks: the document's set. -/
import Derived.Test.YtdfdicmbfgkekaaBack
namespace Go.Proofs.Ytdfdicmbfgkekaa
open Go.RowKit Go.Mm Go.Bs
def rl (r : Nat) (S : Nat → Bool) : List Bool := (List.range r).map S
theorem rl_len (r : Nat) (S : Nat → Bool) : (rl r S).length = r := by simp [rl]
theorem rl_get {r k : Nat} {S : Nat → Bool} (h : k < r) : (rl r S)[k]? = some (S k) := by simp [rl, h]
theorem rl_set (r : Nat) (S T : Nat → Bool) (k : Nat) (h : ∀ j, j ≠ k → T j = S j) : (rl r S).set k (T k) = rl r T := by
  apply List.ext_getElem?
  intro j
  rw [List.getElem?_set]
  by_cases e : k = j
  · subst e
    by_cases hk : k < r
    · simp [rl, hk]
    · simp [rl, hk]
  · rw [if_neg e]
    by_cases hj : j < r
    · rw [rl_get hj, rl_get hj, h j fun e' => e e'.symm]
    · simp [rl, hj]
theorem bL_set (l : List Bool) (k : Nat) (b : Bool) : (bL l).set k (.bool b) = bL (l.set k b) := by simp [bL, List.map_set]
theorem bL_len (l : List Bool) : (bL l).length = l.length := by simp [bL]
/-- the document's set in memory: its blocks lie from lo up to hi -/
structure RefB (lo hi : Nat) (w : World) (b r : Nat) (S : Nat → Bool) : Prop where mk ::
  out : ∃ v, Blk w b 81 #[v] ∧ w.ownsRow lo 4 1 v r (bL (rl r S)) ∧ ∀ k, v.ownBlock = some k → k < hi
  lb : lo ≤ b ∧ b < hi
  top : hi ≤ w.heap.size
  most : r ≤ 65536
  rest : ∀ i, r ≤ i → S i = false
theorem RefB.fr {lo hi b r : Nat} {S : Nat → Bool} {w w' : World} {T : Nat → Prop} (h : RefB lo hi w b r S) (f : Fr T w w') (hT : ∀ k, lo ≤ k → k < hi → ¬ T k) : RefB lo hi w' b r S := by
  obtain ⟨v, h1, h2, h3⟩ := h.out
  exact ⟨⟨v, f.blk h1 (hT b h.lb.1 h.lb.2), f.own h2 (fun k hk => hT k (own_lt h2 hk).1 (h3 k hk)), h3⟩, h.lb, Nat.le_trans h.top f.size, h.most, h.rest⟩
theorem RefB.below {lo hi b r : Nat} {S : Nat → Bool} {w w' : World} (h : RefB lo hi w b r S) (f : Below w.heap.size w w') : RefB lo hi w' b r S := h.fr (Fr.of_below f) fun _ _ _ h => h
theorem rroom_any (lo hi b r : Nat) (S : Nat → Bool) (w : World) (h : RefB lo hi w b r S) : Calls Try.prog 54 #[.pointer (some ⟨b, 0, none⟩)] w fun e w' => e = .returned (.int .i64 (r : Int)) ∧ w = w' := by
  obtain ⟨v, h1, h2, h3⟩ := h.out
  obtain ⟨A, c, rfl, hc, _, _⟩ := own_slice h2
  have c0 : w.cell? ⟨b, 0, none⟩ = some (.slice A r c) := h1.cell 0
  have hm := h.most
  clear h h1 h2 h3
  go_enter Try.func54, Try.ntmps54
  go_wp2
  go_ret
  exact ⟨rfl, rfl⟩
theorem rhas_any (lo hi b r : Nat) (S : Nat → Bool) (i : Int) (w : World) (h : RefB lo hi w b r S) : Calls Try.prog 52 #[.pointer (some ⟨b, 0, none⟩), .int .i64 i] w fun e w' => e = .returned (.bool (hasB r S i)) ∧ w = w' := by
  obtain ⟨v, h1, h2, h3⟩ := h.out
  have hm := h.most
  by_cases q1 : i < 0
  · rw [hasB_neg q1]
    clear h h1 h2 h3
    go_enter Try.func52, Try.ntmps52
    go_wp2
    go_ret
    exact ⟨rfl, rfl⟩
  obtain ⟨k, rfl⟩ := Int.eq_ofNat_of_zero_le (show 0 ≤ i by omega)
  by_cases q2 : k < r
  · rw [hasB_in q2]
    obtain ⟨g, cap, rfl, hc, _, _, hcell, _⟩ := own_blk h2 (by omega)
    have c0 : w.cell? ⟨b, 0, none⟩ = some (.slice (some ⟨g, 0, none⟩) r cap) := h1.cell 0
    have ck : w.cell? ⟨g, k, none⟩ = some (.bool (S k)) := hcell k _ (bL_get (rl_get q2))
    clear h h1 h2 h3 hcell
    go_enter Try.func52, Try.ntmps52
    go_wp2
    go_ret
    exact ⟨rfl, rfl⟩
  · rw [hasB_big (by omega)]
    obtain ⟨A, c, rfl, hc, _, _⟩ := own_slice h2
    have c0 : w.cell? ⟨b, 0, none⟩ = some (.slice A r c) := h1.cell 0
    clear h h1 h2 h3
    go_enter Try.func52, Try.ntmps52
    go_wp2
    go_ret
    exact ⟨rfl, rfl⟩
def RefEnds (lo hi b r : Nat) (S : Nat → Bool) (v : Value) (w : World) (e : Ending) (w' : World) : Prop := e = .returned v ∧ RefB lo hi w' b r S ∧ Fr (fun k => lo ≤ k ∧ k < hi) w w' ∧ w'.heap.size = w.heap.size
theorem RefB.set {lo hi b r k g cap : Nat} {S T : Nat → Bool} {w : World} (h : RefB lo hi w b r S) (c0 : Blk w b 81 #[.slice (some ⟨g, 0, none⟩) r cap]) (ho : w.ownsRow lo 4 1 (.slice (some ⟨g, 0, none⟩) r cap) r (bL (rl r S))) (hg : g < hi) (hT : ∀ j, j ≠ k → T j = S j) (hr : ∀ i, r ≤ i → T i = false) :
    RefB lo hi (w.setCell ⟨g, k, none⟩ (.bool (T k))) b r T ∧ Fr (fun k => lo ≤ k ∧ k < hi) w (w.setCell ⟨g, k, none⟩ (.bool (T k))) ∧ (w.setCell ⟨g, k, none⟩ (.bool (T k))).heap.size = w.heap.size := by
  have hne : b ≠ g := fun e => own_ne ho c0 (by decide) (by rw [e]; rfl)
  have hlo := (own_lt ho (b := g) rfl).1
  refine ⟨⟨⟨_, (Fr.setCell w ⟨g, k, none⟩ _).blk c0 hne, ?_, fun j hj => ?_⟩, h.lb, by have := h.top; simpa [World.setCell] using this, h.most, hr⟩, (Fr.setCell w ⟨g, k, none⟩ _).mono (fun j (e : j = g) => by subst e; exact ⟨hlo, hg⟩), by simp [World.setCell]⟩
  · have := own_set ho k (.bool (T k))
    rwa [bL_set, rl_set r S T k hT] at this
  · have : g = j := by simpa [Value.ownBlock] using hj
    omega
theorem RefB.row {lo hi b r : Nat} {S : Nat → Bool} {w : World} (h : RefB lo hi w b r S) (hr : 0 < r) : ∃ g cap, r ≤ cap ∧ g < hi ∧ Blk w b 81 #[.slice (some ⟨g, 0, none⟩) r cap] ∧ w.ownsRow lo 4 1 (.slice (some ⟨g, 0, none⟩) r cap) r (bL (rl r S)) ∧ (∀ k, k < r → w.cell? ⟨g, k, none⟩ = some (.bool (S k))) ∧ ∀ j, w.frozen? ⟨g, j, none⟩ = false := by
  obtain ⟨v, h1, h2, h3⟩ := h.out
  obtain ⟨g, cap, rfl, hc, _, _, hcell, hfr⟩ := own_blk h2 hr
  exact ⟨g, cap, hc, h3 g rfl, h1, h2, fun k hk => hcell k _ (bL_get (rl_get hk)), hfr⟩
set_option maxHeartbeats 1000000 in
theorem radd_any (lo hi b r : Nat) (S : Nat → Bool) (i : Int) (w : World) (h : RefB lo hi w b r S) : Calls Try.prog 50 #[.pointer (some ⟨b, 0, none⟩), .int .i64 i] w (RefEnds lo hi b r (addS r S i) (.bool (addB r S i)) w) := by
  have hm := h.most
  by_cases q1 : i < 0
  · have e1 : addS r S i = S := if_neg (by omega)
    have e2 : addB r S i = false := by unfold addB; rw [decide_eq_false (by omega)]; rfl
    rw [e1, e2]
    have H := Mm.hid h
    clear h e1 e2
    go_enter Try.func50, Try.ntmps50
    go_wp2
    go_ret
    exact ⟨rfl, H.out, Fr.refl _ _, rfl⟩
  obtain ⟨k, rfl⟩ := Int.eq_ofNat_of_zero_le (show 0 ≤ i by omega)
  by_cases q2 : k < r
  · cases hs : S k
    · have e1 : addS r S k = ins S k := if_pos ⟨by omega, by omega⟩
      have e2 : addB r S k = true := by unfold addB; rw [decide_eq_true (by omega), Int.toNat_natCast, hs]; rfl
      rw [e1, e2]
      obtain ⟨g, cap, hc, hg, hb, ho, hcell, hfr⟩ := h.row (by omega)
      have c0 : w.cell? ⟨b, 0, none⟩ = some (.slice (some ⟨g, 0, none⟩) r cap) := hb.cell 0
      have ck := hcell k q2
      rw [hs] at ck
      have dk := hfr k
      have fin := h.set hb ho hg (k := k) (T := ins S k) (fun j hj => if_neg hj) (fun i hi => by unfold ins; rw [if_neg (by omega)]; exact h.rest i hi)
      rw [show ins S k k = true from if_pos rfl] at fin
      have FIN := Mm.hid fin
      clear h hb ho hcell hfr hs e1 e2 fin
      go_enter Try.func50, Try.ntmps50
      go_wp2
      go_ret
      exact ⟨rfl, FIN.out⟩
    · have e1 : addS r S k = S := (if_pos ⟨by omega, by omega⟩).trans (ins_same hs)
      have e2 : addB r S k = false := by unfold addB; rw [decide_eq_true (by omega), Int.toNat_natCast, hs]; rfl
      rw [e1, e2]
      obtain ⟨g, cap, hc, hg, hb, ho, hcell, hfr⟩ := h.row (by omega)
      have c0 : w.cell? ⟨b, 0, none⟩ = some (.slice (some ⟨g, 0, none⟩) r cap) := hb.cell 0
      have ck := hcell k q2
      rw [hs] at ck
      have H := Mm.hid h
      clear h hb ho hcell hfr hs e1 e2
      go_enter Try.func50, Try.ntmps50
      go_wp2
      go_ret
      exact ⟨rfl, H.out, Fr.refl _ _, rfl⟩
  · have e1 : addS r S k = S := if_neg (by omega)
    have e2 : addB r S k = false := by unfold addB; rw [decide_eq_false (by omega)]; rfl
    rw [e1, e2]
    obtain ⟨v, h1, h2, h3⟩ := h.out
    obtain ⟨A, c, rfl, hc, _, _⟩ := own_slice h2
    have c0 : w.cell? ⟨b, 0, none⟩ = some (.slice A r c) := h1.cell 0
    have H := Mm.hid h
    clear h h1 h2 h3 e1 e2
    go_enter Try.func50, Try.ntmps50
    go_wp2
    go_ret
    exact ⟨rfl, H.out, Fr.refl _ _, rfl⟩
set_option maxHeartbeats 1000000 in
theorem rdrop_any (lo hi b r : Nat) (S : Nat → Bool) (i : Int) (w : World) (h : RefB lo hi w b r S) : Calls Try.prog 51 #[.pointer (some ⟨b, 0, none⟩), .int .i64 i] w (RefEnds lo hi b r (dropS r S i) (.bool (hasB r S i)) w) := by
  have hm := h.most
  by_cases q1 : i < 0
  · have e1 : dropS r S i = S := if_neg (by omega)
    have e2 : hasB r S i = false := by unfold hasB; rw [decide_eq_false (by omega)]; rfl
    rw [e1, e2]
    have H := Mm.hid h
    clear h e1 e2
    go_enter Try.func51, Try.ntmps51
    go_wp2
    go_ret
    exact ⟨rfl, H.out, Fr.refl _ _, rfl⟩
  obtain ⟨k, rfl⟩ := Int.eq_ofNat_of_zero_le (show 0 ≤ i by omega)
  by_cases q2 : k < r
  · cases hs : S k
    · have e1 : dropS r S k = S := (if_pos ⟨by omega, by omega⟩).trans (del_same hs)
      have e2 : hasB r S k = false := by unfold hasB; rw [decide_eq_true (by omega), Int.toNat_natCast, hs]; rfl
      rw [e1, e2]
      obtain ⟨g, cap, hc, hg, hb, ho, hcell, hfr⟩ := h.row (by omega)
      have c0 : w.cell? ⟨b, 0, none⟩ = some (.slice (some ⟨g, 0, none⟩) r cap) := hb.cell 0
      have ck := hcell k q2
      rw [hs] at ck
      have H := Mm.hid h
      clear h hb ho hcell hfr hs e1 e2
      go_enter Try.func51, Try.ntmps51
      go_wp2
      go_ret
      exact ⟨rfl, H.out, Fr.refl _ _, rfl⟩
    · have e1 : dropS r S k = del S k := if_pos ⟨by omega, by omega⟩
      have e2 : hasB r S k = true := by unfold hasB; rw [decide_eq_true (by omega), Int.toNat_natCast, hs]; rfl
      rw [e1, e2]
      obtain ⟨g, cap, hc, hg, hb, ho, hcell, hfr⟩ := h.row (by omega)
      have c0 : w.cell? ⟨b, 0, none⟩ = some (.slice (some ⟨g, 0, none⟩) r cap) := hb.cell 0
      have ck := hcell k q2
      rw [hs] at ck
      have dk := hfr k
      have fin := h.set hb ho hg (k := k) (T := del S k) (fun j hj => if_neg hj) (fun i hi => by unfold del; rw [if_neg (by omega)]; exact h.rest i hi)
      rw [show del S k k = false from if_pos rfl] at fin
      have FIN := Mm.hid fin
      clear h hb ho hcell hfr hs e1 e2 fin
      go_enter Try.func51, Try.ntmps51
      go_wp2
      go_ret
      exact ⟨rfl, FIN.out⟩
  · have e1 : dropS r S k = S := if_neg (by omega)
    have e2 : hasB r S k = false := by unfold hasB; rw [decide_eq_false (by omega)]; rfl
    rw [e1, e2]
    obtain ⟨v, h1, h2, h3⟩ := h.out
    obtain ⟨A, c, rfl, hc, _, _⟩ := own_slice h2
    have c0 : w.cell? ⟨b, 0, none⟩ = some (.slice A r c) := h1.cell 0
    have H := Mm.hid h
    clear h h1 h2 h3 e1 e2
    go_enter Try.func51, Try.ntmps51
    go_wp2
    go_ret
    exact ⟨rfl, H.out, Fr.refl _ _, rfl⟩
end Go.Proofs.Ytdfdicmbfgkekaa

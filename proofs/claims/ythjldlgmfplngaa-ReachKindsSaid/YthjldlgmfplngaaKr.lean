/- Close of names, arrays and structs, as ReachKinds asks it: the same names. -/
import Derived.Test.YthjldlgmfplngaaKnE
import Derived.Test.YthjldlgmfplngaaKnP
import Derived.Test.YthjldlgmfplngaaRow
namespace Go.Proofs.Ythjldlgmfplngaa
open Go.RowKit Go.Mm Go.Maps Go.Reach Go.WideMaps
theorem upL_of {ps : List Pr} {x : ByteArray} {L : List ByteArray} (hw : Whole (line ps) (puts [] [x]) L) : L = upL ps x :=
  Whole.uniq (f := line ps) (l0 := [x]) (by simpa [puts, put1] using hw) (upL_whole ps x)
def KrE (te sz : Nat) (xs : List Value) (m : Nat) (wA : World) (e : Ending) (w' : World) : Prop :=
  ∃ A1 c1, e = .returned (.slice A1 m c1) ∧ m ≤ c1 ∧ Hid (Rd w' A1 m sz xs ∧ w'.ownsRow wA.heap.size te sz (.slice A1 m c1) m xs ∧ Fr (fun _ => False) wA w')
section
variable (wA : World) (ps : List Pr) (x : ByteArray) (A : Option Addr) (N c pb m g : Nat) (hb : Blk wA pb 32 #[.slice A N c]) (hr : Rd wA A N 2 (ps.flatMap fPr)) (hN : ps.length = N) (hl : N * 32 ≤ 140737488351232) (hs : Szs ps) (hx : x.size ≤ maxLen) (hm : (upL ps x).length = m)
include hb hr hN hl hs hx hm
theorem kr_row (hlit : Rd wA (some ⟨g, 0, none⟩) 1 1 (strs [x])) : Calls Try.prog 19 #[.slice (some ⟨g, 0, none⟩) 1 1, .func (.func 20) #[] #[.pointer (some ⟨pb, 0, none⟩)]] wA (KrE 9 1 (strs (upL ps x)) m wA) := by
  refine (close_any 20 #[.pointer (some ⟨pb, 0, none⟩)] (enters_of Try.func20 (by kernel_rfl) rfl) (line ps) (all ps x) (KI wA) (ki_inv wA) (kn_next wA ps A N c pb hb hr hN hl _) (all_sz hs hx) all_line (fun y _ => by
    have := line_len ps y
    rw [all_len]; omega) [x] (fun y hy => by rw [List.mem_singleton.1 hy]; exact List.mem_cons_self ..) (by simp) _ 1 1 (fun k => k < wA.heap.size) wA hlit ⟨rfl, Nat.le_refl _, fun _ _ => rfl⟩).mono ?_
  rintro e w' ⟨v, L, G, rfl, hw, hrow, hi, _, _, hf⟩
  have hL := upL_of hw
  subst hL
  rw [hm] at hrow
  obtain ⟨A1, c1, rfl, hc1, _, hR⟩ := own_slice hrow
  exact ⟨A1, c1, rfl, hc1, hR, hrow, ki_fr hi hf⟩
theorem kre_row (hlit : Rd wA (some ⟨g, 0, none⟩) 1 2 (r2 gE [x])) : Calls Try.prog 21 #[.slice (some ⟨g, 0, none⟩) 1 1, .func (.func 22) #[] #[.pointer (some ⟨pb, 0, none⟩)]] wA (KrE 42 2 (r2 gE (upL ps x)) m wA) := by
  refine (closee_any 22 #[.pointer (some ⟨pb, 0, none⟩)] (enters_of Try.func22 (by kernel_rfl) rfl) (line ps) (all ps x) (KI wA) (ki_inv wA) (kne_next wA ps A N c pb hb hr hN hl _) (all_sz hs hx) all_line (by rw [all_len]; omega) (fun y _ => by
    have := line_len ps y
    omega) [x] (fun y hy => by rw [List.mem_singleton.1 hy]; exact List.mem_cons_self ..) (by simp) _ 1 1 (fun k => k < wA.heap.size) wA hlit ⟨rfl, Nat.le_refl _, fun _ _ => rfl⟩).mono ?_
  rintro e w' ⟨v, L, G, rfl, hw, hrow, hi, _, _, hf⟩
  have hL := upL_of hw
  subst hL
  rw [hm] at hrow
  obtain ⟨A1, c1, rfl, hc1, _, hR⟩ := own_slice hrow
  exact ⟨A1, c1, rfl, hc1, hR, hrow, ki_fr hi hf⟩
theorem krp_row (hlit : Rd wA (some ⟨g, 0, none⟩) 1 2 (r2 gP [x])) : Calls Try.prog 23 #[.slice (some ⟨g, 0, none⟩) 1 1, .func (.func 24) #[] #[.pointer (some ⟨pb, 0, none⟩)]] wA (KrE 37 2 (r2 gP (upL ps x)) m wA) := by
  refine (closep_any 24 #[.pointer (some ⟨pb, 0, none⟩)] (enters_of Try.func24 (by kernel_rfl) rfl) (line ps) (all ps x) (KI wA) (ki_inv wA) (knp_next wA ps A N c pb hb hr hN hl _) (all_sz hs hx) all_line (by rw [all_len]; omega) (fun y _ => by
    have := line_len ps y
    omega) [x] (fun y hy => by rw [List.mem_singleton.1 hy]; exact List.mem_cons_self ..) (by simp) _ 1 1 (fun k => k < wA.heap.size) wA hlit ⟨rfl, Nat.le_refl _, fun _ _ => rfl⟩).mono ?_
  rintro e w' ⟨v, L, G, rfl, hw, hrow, hi, _, _, hf⟩
  have hL := upL_of hw
  subst hL
  rw [hm] at hrow
  obtain ⟨A1, c1, rfl, hc1, _, hR⟩ := own_slice hrow
  exact ⟨A1, c1, rfl, hc1, hR, hrow, ki_fr hi hf⟩
end
end Go.Proofs.Ythjldlgmfplngaa

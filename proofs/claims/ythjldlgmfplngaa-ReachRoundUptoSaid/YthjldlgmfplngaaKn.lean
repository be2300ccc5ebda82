/- Walk: what ReachKinds asks of each name, in memory of its own. -/
import Derived.Test.YthjldlgmfplngaaCloseE
import Derived.Test.YthjldlgmfplngaaCloseP
import Derived.Test.YthjldlgmfplngaaHas
namespace Go.Proofs.Ythjldlgmfplngaa
open Go.RowKit Go.Mm Go.Maps Go.Reach Go.WideMaps
/-- nothing that stood there is touched -/
def KI (wA : World) (_ : List ByteArray) (G : Nat → Prop) (w : World) : Prop := G = (fun k => k < wA.heap.size) ∧ wA.heap.size ≤ w.heap.size ∧ ∀ k, k < wA.heap.size → w.heap[k]? = wA.heap[k]?
theorem ki_inv (wA : World) : Inv (KI wA) :=
  ⟨fun _ _ _ _ ⟨e, h1, h2⟩ hs hk => ⟨e, Nat.le_trans h1 hs, fun k hl => (hk k (by rw [e]; exact hl)).trans (h2 k hl)⟩, fun _ _ _ k ⟨e, h1, _⟩ hk => by rw [e] at hk; exact Nat.lt_of_lt_of_le hk h1⟩
theorem ki_fr {wA w' : World} {d : List ByteArray} {G G0 : Nat → Prop} (h : KI wA d G w') (hf : Fr G0 wA w') : Fr (fun _ => False) wA w' :=
  ⟨hf.os, hf.tape, hf.output, hf.size, fun k hk _ => h.2.2 k hk⟩
theorem ki_rd {wA w : World} {d : List ByteArray} {G : Nat → Prop} (h : KI wA d G w) {A : Option Addr} {n sz : Nat} {xs : List Value} (hr : Rd wA A n sz xs) : Rd w A n sz xs :=
  hr.keep h.2.1 fun _ _ hl => h.2.2 _ hl
theorem ki_blk {wA w : World} {d : List ByteArray} {G : Nat → Prop} (h : KI wA d G w) {g t : Nat} {cs : Array Value} (hb : Blk wA g t cs) : Blk w g t cs := hb.keep (h.2.2 _ hb.lt)
theorem line_take {ps : List Pr} {k : Nat} {p : Pr} (hp : ps[k]? = some p) (x : ByteArray) : line (ps.take (k + 1)) x = if x = p.a then line (ps.take k) x ++ [p.b] else line (ps.take k) x := by
  rw [take_snoc' hp, line_snoc]
set_option maxRecDepth 100000 in
set_option maxHeartbeats 1000000 in
theorem kn_next (wA : World) (ps : List Pr) (A : Option Addr) (N c pb : Nat) (hb : Blk wA pb 32 #[.slice A N c]) (hr : Rd wA A N 2 (ps.flatMap fPr)) (hN : ps.length = N) (hl : N * 32 ≤ 140737488351232) (U : List ByteArray) : NextAt 20 #[.pointer (some ⟨pb, 0, none⟩)] (line ps) (KI wA) U := by
  intro d G w x hI _
  have HI := Mm.hid hI
  have R := Mm.hid (ki_rd hI hr)
  have B := Mm.hid (ki_blk hI hb)
  have HN := Mm.hid hN
  have HL := Mm.hid hl
  have hN9 : N ≤ 4398046511104 := by omega
  clear hI hb hr hN hl
  have e0 : w.cell? ⟨pb, 0, none⟩ = some (.slice A N c) := B.out.cell 0
  go_enter Try.func20, Try.ntmps20
  go_wp2_with fail
  have ST : Hid (w.ownsRow w.heap.size 9 1 (.slice none 0 0) 0 (strs (line (ps.take 0) x)) ∧ Below w.heap.size w w) := ⟨nil_row _ _, Below.refl _ _⟩
  go_loopw [4, 5] (fun lv iv wr => ∃ k m A1 c1, k ≤ N ∧ m ≤ k ∧ iv = .int .i64 (k : Nat) ∧ lv = .slice A1 m c1 ∧ m ≤ c1 ∧ (line (ps.take k) x).length = m ∧ Hid (wr.ownsRow w.heap.size 9 1 (.slice A1 m c1) m (strs (line (ps.take k) x)) ∧ Below w.heap.size w wr)) (fun _ iv _ => N - (intOf iv).toNat)
  case atStart => exact ⟨0, 0, none, 0, Nat.zero_le _, Nat.le_refl _, rfl, rfl, Nat.le_refl _, rfl, ST.out⟩
  case round =>
    obtain ⟨k, m, A1, c1, hk, hm, rfl, rfl, hc1, hlm, HQ⟩ := hrel
    clear ST
    have d0 : wr.cell? ⟨pb, 0, none⟩ = some (.slice A N c) := ((Fr.of_below HQ.out.2).blk B.out fun h => h).cell 0
    by_cases hlt : k < N
    · obtain ⟨p, hp⟩ : ∃ p, ps[k]? = some p := ⟨_, List.getElem?_eq_getElem (by rw [HN.out]; exact hlt)⟩
      obtain ⟨ad, rfl, _, f0, f1⟩ := rd_pr (R.out.below HQ.out.2) HN.out hp
      have LT := Mm.hid (line_take hp x)
      by_cases hpx : p.a = x
      · have hs := str_same x
        subst hpx
        have HL1 : Hid ((m + 1) * 16 ≤ 140737488355328) := by show _ ≤ _; have := HL.out; omega
        have HS1 : Hid (∀ u ∈ (#[.string p.b] : Array Value).toList, u.oneCell' = true) := by intro u hu; simp at hu; subst hu; rfl
        have R1 := Mm.hid HQ.out.1
        have T1 := Mm.hid HQ.out.2
        clear hp HQ
        go_wp2_with (at_builtin; go_must (refine wp_ape1 w.heap.size rfl (.tmp 19) (.tmp 25) 33 9 (.string ByteArray.empty) 1 16 #[.string p.b] rfl Try.underlying33 info9 rfl (by decide) (by decide) (.slice A1 m c1) m _ rfl rfl rfl HS1.out R1.out T1.out T1.out.size HL1.out ?_; intro v1 wb k1 k2 k3 k4; obtain ⟨A2, c2, hv, hc2, _, _⟩ := own_slice k1; subst hv; have K1 := Mm.hid k1; have K2 := Mm.hid k2; clear k1 k2 k3 k4))
        have NX : Hid ((line (ps.take (k + 1)) p.a).length = m + 1 ∧ wb.ownsRow w.heap.size 9 1 (.slice A2 (m + 1) c2) (m + 1) (strs (line (ps.take (k + 1)) p.a)) ∧ Below w.heap.size w wb) := by
          show _ ∧ _ ∧ _
          rw [LT.out, if_pos rfl, ← strs_snoc]
          exact ⟨by simp [hlm], K1.out, K2.out⟩
        go_roundw
        case rel => exact ⟨k + 1, m + 1, A2, c2, by omega, by omega, by go_num, rfl, hc2, NX.out.1, NX.out.2⟩
        case measure => simp [intOf] <;> omega
      · have hs := str_ne hpx
        have NX : Hid ((line (ps.take (k + 1)) x).length = m ∧ wr.ownsRow w.heap.size 9 1 (.slice A1 m c1) m (strs (line (ps.take (k + 1)) x)) ∧ Below w.heap.size w wr) := by
          show _ ∧ _ ∧ _
          rw [LT.out, if_neg fun e => hpx e.symm]
          exact ⟨hlm, HQ.out⟩
        clear hpx hp HQ
        go_wp2_with fail
        go_roundw
        case rel => exact ⟨k + 1, m, A1, c1, by omega, by omega, by go_num, rfl, hc1, NX.out.1, NX.out.2⟩
        case measure => simp [intOf] <;> omega
    · have hkN : k = N := by omega
      subst hkN
      have HQ2 := HQ.out
      rw [List.take_of_length_le (by rw [HN.out]; exact Nat.le_refl _)] at HQ2
      have HQH := Mm.hid HQ2
      clear HQ HQ2
      go_wp2_with fail
      go_ret
      have I0 := HI.out
      refine ⟨A1, m, c1, G, rfl, hc1, Rd.of_own HQH.out.1, ⟨I0.1, Nat.le_trans I0.2.1 HQH.out.2.size, fun j hj => (HQH.out.2.block j (Nat.lt_of_lt_of_le hj I0.2.1)).trans (I0.2.2 j hj)⟩, fun j hj => .inl hj, fun hn ad ha => ?_, (Fr.of_below HQH.out.2).mono fun _ h => h.elim⟩
      have hb := own_lt HQH.out.1 (b := ad.block) (by
        obtain ⟨A', c', he, _, hA, _⟩ := own_slice HQH.out.1
        injection he with he1 he2 he3
        subst he1 he3
        exact hA ad ha)
      exact ⟨hb.2, .inr hb.1⟩
end Go.Proofs.Ythjldlgmfplngaa

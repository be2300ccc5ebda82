/- The walk of ReachKinds. -/
import Derived.Test.YthjldlgmfplngaaKr
import Derived.Test.YthjldlgmfplngaaOpen
import Derived.Test.YthjldlgmfplngaaEq
namespace Go.Proofs.Ythjldlgmfplngaa
open Go.RowKit Go.Mm Go.Maps Go.Reach Go.WideMaps
set_option maxRecDepth 100000 in
set_option maxHeartbeats 4000000 in
theorem law_kinds (A : Option Addr) (N c : Nat) (ps : List Pr) (x : ByteArray) (w : World) (h : Sl w 2 32 fPr gPr A N c ps) (hx : x.size ≤ 140737488351232) :
    Calls Try.prog 4 #[.slice A N c, .string x] w fun e w' => e = .returned (.bool true) ∧ Below w.heap.size w w' := by
  have hmf : ∀ (fn : Fn) (first cap : Array Value) (w : World), (Instr.makeFunc fn first cap).run Try.prog w = .ok (.func fn first cap) w := fun _ _ _ _ => rfl
  have hq42 := neq42
  have R := Mm.hid h.rd
  have HN := Mm.hid h.len
  have hroom : N * 32 ≤ 140737488351232 := h.room
  have HR := Mm.hid hroom
  have HL : Hid (N * 32 + 16 ≤ 140737488355328) := by show _ ≤ _; omega
  have hN9 : N ≤ 4398046511104 := by omega
  have HS := Mm.hid (gPr_szs h.good)
  have HX : Hid (x.size ≤ maxLen) := by show _ ≤ _; unfold maxLen; omega
  clear h hroom hx
  obtain ⟨w0, hw0⟩ : ∃ w0, w.alloc (.cells #[.slice A N c] 32) = w0 := ⟨_, rfl⟩
  have B0 : Hid (Blk w0 w.heap.size 32 #[.slice A N c]) := by show Blk _ _ _ _; rw [← hw0]; exact Blk.new w _ _
  have F0 : Hid (Below w.heap.size w w0) := by show Below _ _ _; rw [← hw0]; exact (Below.refl _ _).alloc (Nat.le_refl _) _
  have d0 : w0.cell? ⟨w.heap.size, 0, none⟩ = some (.slice A N c) := B0.out.cell 0
  have UC := Mm.hid (rup_row ps x _ _ c _ (R.out.below F0.out) HN.out HL.out)
  go_enter Try.func4, Try.ntmps4
  go_upto_region 2 with (go_at_call 18; refine UC.out.mono ?_; rintro e w1 ⟨Aa, ma, ca, rfl, hma, OA⟩)
  have hm : (upL ps x).length = ma := OA.out.1
  have HM := Mm.hid hm
  obtain ⟨w1l, hw1⟩ : ∃ w1l, w1.alloc (.cells #[.string x] 9) = w1l := ⟨_, rfl⟩
  have F1 : Hid (Fr (fun _ => False) w0 w1l) := by show Fr _ _ _; rw [← hw1]; exact (Fr.of_below OA.out.2.2).trans (Fr.alloc (fun _ => False) _ _) fun _ _ h => h
  have X1 : Hid (Rd w1l (some ⟨w1.heap.size, 0, none⟩) 1 1 (strs [x])) := by show Rd _ _ _ _ _; rw [← hw1]; exact Rd.box w1 #[.string x] 9 rfl
  have RA1 : Hid (Rd w1l Aa ma 1 (strs (upL ps x))) := by
    show Rd _ _ _ _ _
    rw [← hw1]
    exact (Rd.of_own OA.out.2.1).alloc _
  have C1 := Mm.hid (kr_row w1l ps x A N c w.heap.size ma w1.heap.size (F1.out.blk B0.out fun h => h) (F1.out.rd (R.out.below F0.out) fun _ _ h => h) HN.out HR.out HS.out HX.out hm X1.out)
  clear OA X1
  go_upto_region 3 with (go_at_call 19; refine C1.out.mono ?_; rintro e w2 ⟨Ab, cb, rfl, hmb, OB⟩)
  clear C1 hw1
  obtain ⟨w2l, hw2⟩ : ∃ w2l, w2.alloc (.cells #[.string x, .string { data := #[48] }] 42) = w2l := ⟨_, rfl⟩
  have G2 : Hid (Fr (fun _ => False) w1l w2l) := by show Fr _ _ _; rw [← hw2]; exact OB.out.2.2.trans (Fr.alloc (fun _ => False) _ _) fun _ _ h => h
  have F2 := Mm.hid (F1.out.trans G2.out fun _ _ h => h)
  have X2 : Hid (Rd w2l (some ⟨w2.heap.size, 0, none⟩) 1 2 (r2 gE [x])) := by show Rd _ _ _ _ _; rw [← hw2]; exact Rd.box w2 #[.string x, .string { data := #[48] }] 42 rfl
  have RA2 := Mm.hid (G2.out.rd RA1.out fun _ _ h => h)
  have RB2 : Hid (Rd w2l Ab ma 1 (strs (upL ps x))) := by show Rd _ _ _ _ _; rw [← hw2]; exact OB.out.1.alloc _
  have C2 := Mm.hid (kre_row w2l ps x A N c w.heap.size ma w2.heap.size (F2.out.blk B0.out fun h => h) (F2.out.rd (R.out.below F0.out) fun _ _ h => h) HN.out HR.out HS.out HX.out hm X2.out)
  clear OB X2 RA1 G2
  go_upto_region 4 with (go_at_call 21; refine C2.out.mono ?_; rintro e w3 ⟨Ac, cc, rfl, hmc, OC⟩)
  clear C2 hw2
  obtain ⟨w3l, hw3⟩ : ∃ w3l, w3.alloc (.cells #[.string x, .string x] 37) = w3l := ⟨_, rfl⟩
  have G3 : Hid (Fr (fun _ => False) w2l w3l) := by show Fr _ _ _; rw [← hw3]; exact OC.out.2.2.trans (Fr.alloc (fun _ => False) _ _) fun _ _ h => h
  have F3 := Mm.hid (F2.out.trans G3.out fun _ _ h => h)
  have X3 : Hid (Rd w3l (some ⟨w3.heap.size, 0, none⟩) 1 2 (r2 gP [x])) := by show Rd _ _ _ _ _; rw [← hw3]; exact Rd.box w3 #[.string x, .string x] 37 rfl
  have RA3 := Mm.hid (G3.out.rd RA2.out fun _ _ h => h)
  have RB3 := Mm.hid (G3.out.rd RB2.out fun _ _ h => h)
  have RC3 : Hid (Rd w3l Ac ma 2 (r2 gE (upL ps x))) := by show Rd _ _ _ _ _; rw [← hw3]; exact OC.out.1.alloc _
  have C3 := Mm.hid (krp_row w3l ps x A N c w.heap.size ma w3.heap.size (F3.out.blk B0.out fun h => h) (F3.out.rd (R.out.below F0.out) fun _ _ h => h) HN.out HR.out HS.out HX.out hm X3.out)
  clear OC X3 RA2 RB2 G3
  go_upto_region 5 with (go_at_call 23; refine C3.out.mono ?_; rintro e w4 ⟨Ad, cd, rfl, hmd, OD⟩)
  clear C3 hw3
  have F4 := Mm.hid (F3.out.trans OD.out.2.2 fun _ _ h => h)
  have RA4 := Mm.hid (OD.out.2.2.rd RA3.out fun _ _ h => h)
  have RB4 := Mm.hid (OD.out.2.2.rd RB3.out fun _ _ h => h)
  have RC4 := Mm.hid (OD.out.2.2.rd RC3.out fun _ _ h => h)
  have RD4 := Mm.hid OD.out.1
  have hm9 : ma ≤ 4611686018427387904 := by
    have := upL_len ps x
    rw [hm, HN.out] at this
    omega
  clear OD RA3 RB3 RC3 F1 F2 F3 d0 hw0
  go_wp2_with (go_at_call 25; refine (same_true _ _ _ _ _ _ _ _ RB4.out RA4.out hmb hma hm9).mono ?_; rintro e w5 ⟨rfl, d, hw5⟩)
  clear hw5
  go_loopw [9] (fun iv wr => ∃ i : Nat, i ≤ ma ∧ iv = .int .i64 (i : Nat) ∧ Hid (Fr (fun _ => False) w4 wr)) (fun iv _ => ma - (intOf iv).toNat)
  case atStart => exact ⟨0, Nat.zero_le _, rfl, Mm.hid (Fr.drewN (fun _ => False) _ _)⟩
  case round =>
    obtain ⟨i, hi, rfl, HF⟩ := hrel
    by_cases hlt : i < ma
    · obtain ⟨z, hz⟩ : ∃ z, (upL ps x)[i]? = some z := ⟨_, List.getElem?_eq_getElem (by rw [HM.out]; exact hlt)⟩
      obtain ⟨ada, rfl, _, f1⟩ := (HF.out.rd RA4.out fun _ _ h => h).cell (strs_get hz)
      obtain ⟨adc, rfl, _, c0, c1⟩ := rd_pr (HF.out.rd RC4.out fun _ _ h => h) (by rw [List.length_map, HM.out]) (r2_at gE hz)
      obtain ⟨add, rfl, _, p0, p1⟩ := rd_pr (HF.out.rd RD4.out fun _ _ h => h) (by rw [List.length_map, HM.out]) (r2_at gP hz)
      simp only [gE] at c0 c1
      simp only [gP] at p0 p1
      have hs := str_same z
      have NX : Hid (∀ n, Fr (fun _ => False) w4 (wr.drewN n)) := fun n => HF.out.trans (Fr.drewN (fun _ => False) wr n) fun _ _ h => h
      clear hz
      go_wp2_with fail
      go_quiet (fail)
      clear f1 c0 c1 p0 p1
      go_wp2
      go_roundw
      case rel => exact ⟨i + 1, by omega, by go_num, NX.out _⟩
      case measure => simp [intOf] <;> omega
    · have him : i = ma := by omega
      subst him
      have FE := Mm.hid (F0.out.trans ((F4.out.trans HF.out fun _ _ h => h).below (B := w.heap.size) (fun _ h => h.elim) F0.out.size))
      go_wp2_with fail
      go_ret
      exact ⟨rfl, FE.out⟩
end Go.Proofs.Ythjldlgmfplngaa

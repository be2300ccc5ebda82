/- Walk: in a small web names are reached, ways found, rings told. -/
import Derived.Test.YthjldlgmfplngaaUps
import Derived.Test.YthjldlgmfplngaaPath
namespace Go.Proofs.Ythjldlgmfplngaa
open Go.RowKit Go.Mm Go.Maps Go.Reach Go.WideMaps
def nA : ByteArray := ⟨#[97]⟩
def nB : ByteArray := ⟨#[98]⟩
def nC : ByteArray := ⟨#[99]⟩
def P3 : List Pr := [⟨nA, nB⟩, ⟨nB, nC⟩, ⟨nC, nB⟩]
theorem up3 : upL P3 nA = [nA, nB, nC] := by decide +kernel
theorem path3 : pathL P3 nA nC = [nA, nB, nC] := by decide +kernel
theorem rings3 : (ringsL P3).map List.length = [2] := by decide +kernel
theorem firsts3 : (firsts P3).length = 3 := by decide +kernel
theorem szs3 : Szs P3 := by
  have h : ∀ p ∈ P3, p.a.size = 1 ∧ p.b.size = 1 := by
    intro p hp
    simp only [P3, List.mem_cons, List.not_mem_nil, or_false] at hp
    rcases hp with rfl | rfl | rfl <;> exact ⟨rfl, rfl⟩
  exact ⟨fun p hp => by have := (h p hp).1; unfold maxLen; omega, fun p hp => by have := (h p hp).2; unfold maxLen; omega⟩
theorem sz1 : nA.size ≤ maxLen ∧ nC.size ≤ maxLen := by
  have h1 : nA.size = 1 := rfl
  have h2 : nC.size = 1 := rfl
  unfold maxLen
  omega
set_option maxRecDepth 100000 in
set_option maxHeartbeats 4000000 in
theorem alive_any (w : World) : Calls Try.prog 35 #[] w fun e w' => e = .returned (.bool true) ∧ Hid (Fr (fun _ => False) w w') := by
  obtain ⟨w1, hw1⟩ : ∃ w1, w.alloc (.cells #[.string nA, .string nB, .string nB, .string nC, .string nC, .string nB] 37) = w1 := ⟨_, rfl⟩
  have F1 : Hid (Fr (fun _ => False) w w1) := by show Fr _ _ _; rw [← hw1]; exact Fr.alloc (fun _ => False) w _
  have R1 : Hid (Rd w1 (some ⟨w.heap.size, 0, none⟩) 3 2 (P3.flatMap fPr)) := by
    show Rd _ _ _ _ _
    rw [← hw1]
    refine ⟨rfl, fun _ => ⟨_, rfl, by simp, fun j u hu => ?_⟩⟩
    rw [add_plain, cell_of_row _ w.heap.size j _ _ (0, 0) (heap_alloc_new w _)]
    have e : (P3.flatMap fPr) = (#[.string nA, .string nB, .string nB, .string nC, .string nC, .string nB] : Array Value).toList := rfl
    rw [e] at hu
    simpa using hu
  have hl : (3 : Nat) * 32 + 16 ≤ 140737488355328 := by decide
  go_enter Try.func35, Try.ntmps35
  go_upto_region 2 with (fail)
  obtain ⟨hw1', -⟩ : w.alloc (.cells #[.string ⟨#[97]⟩, .string ⟨#[98]⟩, .string ⟨#[98]⟩, .string ⟨#[99]⟩, .string ⟨#[99]⟩, .string ⟨#[98]⟩] 37) = w1 ∧ True := ⟨hw1, trivial⟩
  rw [hw1']
  clear hw1 hw1'
  obtain ⟨g, hg⟩ : ∃ g, w.heap.size = g := ⟨_, rfl⟩
  rw [hg] at R1 ⊢
  have UC := Mm.hid (up_row P3 nA _ 3 3 w1 R1.out rfl szs3 sz1.1 hl)
  go_upto_region 3 with (go_at_call 28; refine UC.out.mono ?_; rintro e w2 ⟨A2, m2, c2, rfl, hc2, h2⟩)
  have F2 := Mm.hid (F1.out.trans (Fr.of_below h2.out.2.2) fun _ _ h => h)
  have R2 := Mm.hid ((Fr.of_below h2.out.2.2).rd R1.out fun _ _ h => h)
  have O2 := Mm.hid h2.out.2.1
  have hm2 := h2.out.1
  rw [up3] at hm2 O2
  obtain rfl : m2 = 3 := by simp at hm2; omega
  have PC := Mm.hid (path_row P3 nA nC _ 3 3 w2 R2.out rfl szs3 sz1.1 sz1.2 hl)
  clear UC R1 h2 hm2 F1
  go_upto_region 4 with (go_at_call 32; refine PC.out.mono ?_; rintro e w3 ⟨A3, m3, c3, rfl, hc3, h3⟩)
  have f3 := Fr.of_below h3.out.2.2
  have F3 := Mm.hid (F2.out.trans f3 fun _ _ h => h)
  have R3 := Mm.hid (f3.rd R2.out fun _ _ h => h)
  have Q2 := Mm.hid (f3.own O2.out fun _ _ h => h)
  have O3 := Mm.hid h3.out.2.1
  have hm3 := h3.out.1
  rw [path3] at hm3 O3
  obtain rfl : m3 = 3 := by simp at hm3; omega
  have RC := Mm.hid (rings_any P3 _ 3 3 w3 R3.out rfl szs3 (by decide))
  clear PC R2 O2 h3 hm3 f3 F2
  go_upto_region 5 with (go_at_call 34; refine RC.out.mono ?_; rintro e w4 ⟨A4, m4, c4, gv, rfl, hc4, h4⟩)
  obtain ⟨hm4, hB4, hb4⟩ := h4.out
  have f4 := Fr.of_below hb4
  have F4 := Mm.hid (F3.out.trans f4 fun _ _ h => h)
  have R4 := Mm.hid (f4.rd R3.out fun _ _ h => h)
  have S2 := Mm.hid (f4.own Q2.out fun _ _ h => h)
  have S3 := Mm.hid (f4.own O3.out fun _ _ h => h)
  obtain ⟨l4, hl4⟩ : ∃ l, ringsL P3 = [l] ∧ l.length = 2 := by
    have h := rings3
    match hr : ringsL P3, h with
    | [l], h => exact ⟨l, rfl, by simpa using h⟩
    | [], h => simp at h
    | _ :: _ :: _, h => simp at h
  rw [hl4.1] at hm4 hB4
  obtain rfl : m4 = 1 := by simp at hm4; omega
  have B4 := Mm.hid hB4
  have UC := Mm.hid (ups_any P3 _ 3 3 w4 R4.out rfl szs3 hl)
  clear RC R3 Q2 O3 h4 hm4 f4 F3 hB4 hb4
  go_upto_region 6 with (go_at_call 57; refine UC.out.mono ?_; rintro e w5 ⟨am, rfl, h5⟩)
  obtain ⟨hM5, f5⟩ := h5.out
  have F5 := Mm.hid (F4.out.trans f5 fun _ _ h => h)
  have U2 := Mm.hid (f5.own S2.out fun _ _ h => h)
  have U3 := Mm.hid (f5.own S3.out fun _ _ h => h)
  have B5 := Mm.hid (B4.out.frn f5)
  have lm := hM5.len Try.underlying74
  rw [firsts3] at lm
  obtain ⟨g2, c2', hv2, _, _, _, hcell2, _⟩ := own_blk U2.out (by decide)
  injection hv2 with e1 _ e3
  subst e1
  subst e3
  obtain ⟨g3, c3', hv3, _, _, _, hcell3, _⟩ := own_blk U3.out (by decide)
  injection hv3 with e1 _ e3
  subst e1
  subst e3
  obtain ⟨g4, c4', hv4, _, _, _, hcell4, _⟩ := own_blk B5.out.own (by decide)
  injection hv4 with e1 _ e3
  subst e1
  subst e3
  have hgl : gv.length = 1 := own_len B5.out.own
  obtain ⟨v0, hv0⟩ : ∃ v0, gv[0]? = some v0 := ⟨_, List.getElem?_eq_getElem (by omega)⟩
  have ho := B5.out.fam.own 0 v0 (strs l4) hv0 rfl
  rw [strs_len, hl4.2] at ho
  obtain ⟨A6, c6, rfl, hc6, _, _⟩ := own_slice ho
  have d2 : w5.cell? ⟨g2, 2, none⟩ = some (.string ⟨#[99]⟩) := hcell2 2 _ rfl
  have d3 : w5.cell? ⟨g3, 1, none⟩ = some (.string ⟨#[98]⟩) := hcell3 1 _ rfl
  have d4 : w5.cell? ⟨g4, 0, none⟩ = some (.slice A6 2 c6) := hcell4 0 _ hv0
  obtain ⟨w6, hw6⟩ : ∃ w6, w5.alloc (.cells #[.int .i64 4, .int .i64 4] 3) = w6 := ⟨_, rfl⟩
  have F6 : Hid (Fr (fun _ => False) w5 w6) := by show Fr _ _ _; rw [← hw6]; exact Fr.alloc (fun _ => False) w5 _
  have R6 : Hid (Rd w6 (some ⟨w5.heap.size, 0, none⟩) 2 1 (iL [4, 4])) := by show Rd _ _ _ _ _; rw [← hw6]; exact Rd.lit w5 #[.int .i64 4, .int .i64 4] 3 2 rfl
  have o4 : Okn 4 := show (Lit.int .i64 4).wf = true by decide
  have CC := Mm.hid (closei_nil [4, 4] (by simp [o4]) (by simp) _ 2 2 w6 R6.out)
  have hs1 : (({ data := #[99] } : ByteArray).toList == ({ data := #[99] } : ByteArray).toList) = true := by simp
  have hs2 : (({ data := #[98] } : ByteArray).toList == ({ data := #[98] } : ByteArray).toList) = true := by simp
  have hp4 : (puts ([] : List Int) [4, 4]).length = 1 := by decide
  have HF := Mm.hid (F5.out.trans F6.out fun _ _ h => h)
  clear UC R4 S2 S3 h5 hM5 f5 F4 B4 hcell2 hcell3 hcell4 ho
  rw [hp4] at CC
  go_wp2_with (go_at_call 15; refine CC.out.mono ?_; rintro e w7 ⟨A7, m7, c7, rfl, hc7, _, h7⟩; obtain ⟨hm7, _, f7⟩ := h7.out; subst hm7)
  go_ret
  exact ⟨rfl, HF.out.trans f7 fun _ _ h => h⟩
end Go.Proofs.Ythjldlgmfplngaa

/- Walks: the epoch: a grace period asked, slots made, entered, left, waited for; two traces. -/
import Derived.Test.YtkbobgblohohcaaEpB
namespace Go.Proofs.Ytkbobgblohohcaa
open Go.RowKit Go.Mm Go.Cells
section
variable {base g : Nat} {w0 w w' : World} {G : Nat → Prop} {S S' : Cm}
theorem wait_any (sl : Nat) (w : World) : Calls Try.prog 58 #[.pointer (some ⟨sl, 0, none⟩)] w fun e w' => e = .returned (.pointer (some ⟨w.heap.size, 0, none⟩)) ∧ w' = w.alloc (.cells #[.pointer (some ⟨sl, 0, none⟩), .int .i64 0, .int .i64 (-1)] 159) := by
  go_enter Try.func58, Try.ntmps58
  go_wp2
  go_ret
  exact ⟨rfl, rfl⟩
/-- asked, where it looks at no slot -/
theorem gready_out (h : HasG base g w0 G S w) (sl ep fi n gr : Nat) (mark at_ : Int) (ha : at_ = -1 ∨ at_ = (n : Int)) (hL : Blk w sl 157 #[.pointer (some ⟨g, 0, none⟩), .int .i64 (ep : Int), .int .i64 (fi : Int), .int .i64 (n : Int)]) (hW : Blk w gr 159 #[.pointer (some ⟨sl, 0, none⟩), .int .i64 mark, .int .i64 at_]) :
    Calls Try.prog 63 #[.pointer (some ⟨gr, 0, none⟩)] w (FreshE base g w0 w G S (.bool true)) := by
  have l3 : w.cell? ⟨sl, 3, none⟩ = some (.int .i64 (n : Int)) := hL.cell 3
  have c0 : w.cell? ⟨gr, 0, none⟩ = some (.pointer (some ⟨sl, 0, none⟩)) := hW.cell 0
  have c2 := hW.cell 2
  simp only [List.getElem?_toArray, List.getElem?_cons_zero, List.getElem?_cons_succ] at c2
  have FIN : Hid (∀ d, FreshE base g w0 w G S (.bool true) (.returned (.bool true)) (w.drewN d)) := fun d => ⟨rfl, h.drewN d, ⟨rfl, rfl, rfl, Nat.le_refl _, fun _ _ => rfl⟩⟩
  clear h hL hW
  rcases ha with rfl | rfl
  · go_enter Try.func63, Try.ntmps63
    go_wp2_with fail
    go_quiet (fail)
    go_wp2
    go_ret
    exact FIN.out _
  · have hb : ((n : Int) == (n : Int)) = true := by simp
    have hk0 : decide ((n : Int) < 0) = false := decide_eq_false (by omega)
    go_enter Try.func63, Try.ntmps63
    go_wp2_with fail
    go_quiet (fail)
    go_wp2
    go_ret
    exact FIN.out _
set_option maxRecDepth 100000 in
set_option maxHeartbeats 2000000 in
theorem gready_any (h : HasG base g w0 G S w) (sl ep fi n gr k : Nat) (mark x : Int) (hx : S.ws[fi + k]? = some x) (hkn : k < n) (hL : Blk w sl 157 #[.pointer (some ⟨g, 0, none⟩), .int .i64 (ep : Int), .int .i64 (fi : Int), .int .i64 (n : Int)]) (hW : Blk w gr 159 #[.pointer (some ⟨sl, 0, none⟩), .int .i64 mark, .int .i64 (k : Int)]) (hfi : fi ≤ 65536) (hk : n ≤ 16) :
    Calls Try.prog 63 #[.pointer (some ⟨gr, 0, none⟩)] w (FreshE base g w0 w G S (.bool (goes mark x))) := by
  have l3 : w.cell? ⟨sl, 3, none⟩ = some (.int .i64 (n : Int)) := hL.cell 3
  have c0 : w.cell? ⟨gr, 0, none⟩ = some (.pointer (some ⟨sl, 0, none⟩)) := hW.cell 0
  have c2 : w.cell? ⟨gr, 2, none⟩ = some (.int .i64 (k : Int)) := hW.cell 2
  have H := Mm.hid h
  have HL := Mm.hid hL
  have HW := Mm.hid hW
  have HX := Mm.hid hx
  have hlw := hW.lt
  have hll := hL.lt
  obtain ⟨t, ht⟩ : ∃ t, goes mark x = t := ⟨_, rfl⟩
  have T := Mm.hid ht
  rw [ht]
  clear h hL hW hx ht
  have hb : ((k : Int) == (n : Int)) = false := beq_eq_false_iff_ne.2 (by omega)
  have hk0 : decide ((k : Int) < 0) = false := decide_eq_false (by omega)
  go_enter Try.func63, Try.ntmps63
  go_wp2_with fail
  go_region_held3 (fun w' => w'.cell? ⟨gr, 0, none⟩ = some (.pointer (some ⟨sl, 0, none⟩)) ∧ w'.cell? ⟨gr, 2, none⟩ = some (.int .i64 (k : Int)) ∧ w'.cell? ⟨sl, 3, none⟩ = some (.int .i64 (n : Int))) (go_keep)
    (first | (go_at_call 97; refine (snow_any (w := w.drew) (by exact H.out.drewN 1) sl ep fi n k x HX.out (HL.out.keep rfl) hfi (by omega)).mono ?_; rintro e' w2 ⟨rfl, h2, k2⟩; have H2 := Mm.hid h2; have B2 : Hid (Below w.heap.size w w2) := ⟨k2.os, k2.tape, k2.output, k2.size, k2.block⟩; have W2 := Mm.hid (HW.out.keep (B2.out.block gr hlw)); have z0 : w2.cell? ⟨gr, 0, none⟩ = some (.pointer (some ⟨sl, 0, none⟩)) := W2.out.cell 0; have z2 : w2.cell? ⟨gr, 2, none⟩ = some (.int .i64 (k : Int)) := W2.out.cell 2; have z3 : w2.cell? ⟨sl, 3, none⟩ = some (.int .i64 (n : Int)) := (HL.out.keep (B2.out.block sl hll)).cell 3; clear h2 k2) | (go_at_call 94; refine (lets_any gr sl mark (k : Int) _ W2.out).mono ?_; rw [T.out]; rintro e' w9 ⟨rfl, rfl⟩))
  all_goals (
    clear c0 c2 l3 z0 z2 z3
    go_wp2
    go_ret
    exact ⟨rfl, H2.out, B2.out⟩)
/-- a section is made, or refused -/
def SecNew (sl n : Nat) (slot : Int) (w : World) (e : Ending) (w' : World) : Prop :=
  (¬ (0 ≤ slot ∧ slot < (n : Int)) ∧ e = .returned (.tuple #[.pointer none, .int .i64 181]) ∧ w = w') ∨ ((0 ≤ slot ∧ slot < (n : Int)) ∧ e = .returned (.tuple #[.pointer (some ⟨w.heap.size, 0, none⟩), .int .i64 0]) ∧ w' = w.alloc (.cells #[.pointer (some ⟨sl, 0, none⟩), .int .i64 slot, .int .i64 0, .int .i64 0] 161))
theorem enter18_any (sl ep fi n : Nat) (slot : Int) (hL : Blk w sl 157 #[.pointer (some ⟨g, 0, none⟩), .int .i64 (ep : Int), .int .i64 (fi : Int), .int .i64 (n : Int)]) :
    Calls Try.prog 60 #[.pointer (some ⟨sl, 0, none⟩), .int .i64 slot] w (SecNew sl n slot w) := by
  have l3 : w.cell? ⟨sl, 3, none⟩ = some (.int .i64 (n : Int)) := hL.cell 3
  clear hL
  by_cases h0 : slot < 0
  · go_enter Try.func60, Try.ntmps60
    go_wp2
    go_ret2
    exact .inl ⟨by omega, rfl, rfl⟩
  by_cases h1 : (n : Int) ≤ slot
  · go_enter Try.func60, Try.ntmps60
    go_wp2
    go_ret2
    exact .inl ⟨by omega, rfl, rfl⟩
  · go_enter Try.func60, Try.ntmps60
    go_wp2
    go_ret2
    exact .inr ⟨by omega, rfl, rfl⟩
theorem leave_no (sl ep fi n : Nat) (slot : Int) (h : ¬ (0 ≤ slot ∧ slot < (n : Int))) (hL : Blk w sl 157 #[.pointer (some ⟨g, 0, none⟩), .int .i64 (ep : Int), .int .i64 (fi : Int), .int .i64 (n : Int)]) :
    Calls Try.prog 64 #[.pointer (some ⟨sl, 0, none⟩), .int .i64 slot] w fun e w' => e = .returned (.int .i64 181) ∧ w = w' := by
  have l3 : w.cell? ⟨sl, 3, none⟩ = some (.int .i64 (n : Int)) := hL.cell 3
  clear hL
  by_cases h0 : slot < 0
  · clear h
    go_enter Try.func64, Try.ntmps64
    go_wp2
    go_ret
    exact ⟨rfl, rfl⟩
  · have h1 : (n : Int) ≤ slot := by omega
    clear h
    go_enter Try.func64, Try.ntmps64
    go_wp2
    go_ret
    exact ⟨rfl, rfl⟩
theorem leave18_any (h : HasG base g w0 G S w) (sl ep fi n k : Nat) (hkn : k < n) (hs : G sl) (hL : Blk w sl 157 #[.pointer (some ⟨g, 0, none⟩), .int .i64 (ep : Int), .int .i64 (fi : Int), .int .i64 (n : Int)]) (hfi : fi ≤ 65536) (hk : n ≤ 16)
    (hb : S.bad ≤ 4611686018427387904) (hn : (S.tr.length + 1) * 40 ≤ 140737488355328) :
    Calls Try.prog 64 #[.pointer (some ⟨sl, 0, none⟩), .int .i64 (k : Int)] w (HEG base g w0 w G (S.store ((fi : Int) + (k : Int)) 0) (.int .i64 (S.look ((fi : Int) + (k : Int))).2)) := by
  have l3 : w.cell? ⟨sl, 3, none⟩ = some (.int .i64 (n : Int)) := hL.cell 3
  have C := Mm.hid (stell_any h sl ep fi n k 0 hs hL hfi (by omega) hb hn)
  obtain ⟨v, hv⟩ : ∃ v, (S.look ((fi : Int) + (k : Int))).2 = v := ⟨_, rfl⟩
  rw [hv] at C ⊢
  clear h hs hL hb hn hv
  go_enter Try.func64, Try.ntmps64
  go_wp2_with fail
  refine (C.out).mono ?_
  rintro e' w2 ⟨rfl, h2⟩
  have H2 := Mm.hid h2
  clear h2
  go_wp2
  go_ret
  exact ⟨rfl, H2.out⟩
/-- the error of slots -/
def slotC (W : Nat) (ep fi n : Int) : Int := if n < 1 ∨ 16 < n then 3 else if ep < 0 ∨ (W : Int) ≤ ep ∨ fi < 0 ∨ (W : Int) - n < fi then 140 else if fi ≤ ep ∧ ep - fi < n then 1 else 0
def SlE (c : Int) (t : TypeId) (m : Nat) (ep fi n : Int) (w : World) (e : Ending) (w' : World) : Prop :=
  (c ≠ 0 ∧ e = .returned (.tuple #[.pointer none, .int .i64 c]) ∧ w = w') ∨ (c = 0 ∧ e = .returned (.tuple #[.pointer (some ⟨w.heap.size, 0, none⟩), .int .i64 0]) ∧ w' = w.alloc (.cells #[.pointer (some ⟨m, 0, none⟩), .int .i64 ep, .int .i64 fi, .int .i64 n] t))
theorem slots_nil (ep fi n : Int) (w : World) : Calls Try.prog 57 #[.pointer none, .int .i64 ep, .int .i64 fi, .int .i64 n] w fun e w' => e = .returned (.tuple #[.pointer none, .int .i64 2]) ∧ w = w' := by
  go_enter Try.func57, Try.ntmps57
  go_wp2
  go_ret2
  exact ⟨rfl, rfl⟩
theorem slotC_range {W : Nat} {ep fi n : Int} (h : n < 1 ∨ 16 < n) : slotC W ep fi n = 3 := if_pos h
theorem slotC_addr {W : Nat} {ep fi n : Int} (h : ¬ (n < 1 ∨ 16 < n)) (h2 : ep < 0 ∨ (W : Int) ≤ ep ∨ fi < 0 ∨ (W : Int) - n < fi) : slotC W ep fi n = 140 := by unfold slotC; rw [if_neg h, if_pos h2]
theorem slotC_arg {W : Nat} {ep fi n : Int} (h : ¬ (n < 1 ∨ 16 < n)) (h2 : ¬ (ep < 0 ∨ (W : Int) ≤ ep ∨ fi < 0 ∨ (W : Int) - n < fi)) (h3 : fi ≤ ep ∧ ep - fi < n) : slotC W ep fi n = 1 := by unfold slotC; rw [if_neg h, if_neg h2, if_pos h3]
theorem slotC_ok {W : Nat} {ep fi n : Int} (h : ¬ (n < 1 ∨ 16 < n)) (h2 : ¬ (ep < 0 ∨ (W : Int) ≤ ep ∨ fi < 0 ∨ (W : Int) - n < fi)) (h3 : ¬ (fi ≤ ep ∧ ep - fi < n)) : slotC W ep fi n = 0 := by unfold slotC; rw [if_neg h, if_neg h2, if_neg h3]
set_option maxHeartbeats 2000000 in
theorem slots_any (F : Nat → Prop) (W : Nat) (ep fi n : Int) (h : MemB base F w g S) (hl : S.ws.length = W) (hW : W ≤ 65536) : Calls Try.prog 57 #[.pointer (some ⟨g, 0, none⟩), .int .i64 ep, .int .i64 fi, .int .i64 n] w (SlE (slotC W ep fi n) 157 g ep fi n w) := by
  have H := Mm.hid h
  have L := Mm.hid hl
  obtain ⟨c, hc⟩ : ∃ c, slotC W ep fi n = c := ⟨_, rfl⟩
  rw [hc]
  have HC := Mm.hid hc
  clear hc h hl
  by_cases q1 : n < 1
  · have E : Hid (c = 3) := by show _ = _; rw [← HC.out]; exact slotC_range (.inl q1)
    go_enter Try.func57, Try.ntmps57
    go_wp2
    go_ret2
    have hE := E.out
    exact .inl ⟨by rw [hE]; decide, hE ▸ rfl, rfl⟩
  by_cases q2 : 16 < n
  · have E : Hid (c = 3) := by show _ = _; rw [← HC.out]; exact slotC_range (.inr q2)
    go_enter Try.func57, Try.ntmps57
    go_wp2
    go_ret2
    have hE := E.out
    exact .inl ⟨by rw [hE]; decide, hE ▸ rfl, rfl⟩
  have A : Hid (¬ (n < 1 ∨ 16 < n)) := by show ¬ _; omega
  have hn1 : 1 ≤ n := by omega
  have hn2 : n ≤ 16 := by omega
  by_cases q3 : ep < 0
  · have E : Hid (c = 140) := by show _ = _; rw [← HC.out]; exact slotC_addr A.out (.inl q3)
    go_enter Try.func57, Try.ntmps57
    go_wp2_with fail
    refine (len_any base g F S W _ H.out L.out).mono ?_
    rintro e w1 ⟨rfl, rfl⟩
    go_wp2
    go_ret2
    have hE := E.out
    exact .inl ⟨by rw [hE]; decide, hE ▸ rfl, rfl⟩
  by_cases q4 : (W : Int) ≤ ep
  · have E : Hid (c = 140) := by show _ = _; rw [← HC.out]; exact slotC_addr A.out (.inr (.inl q4))
    go_enter Try.func57, Try.ntmps57
    go_wp2_with fail
    refine (len_any base g F S W _ H.out L.out).mono ?_
    rintro e w1 ⟨rfl, rfl⟩
    go_wp2
    go_ret2
    have hE := E.out
    exact .inl ⟨by rw [hE]; decide, hE ▸ rfl, rfl⟩
  by_cases q5 : fi < 0
  · have E : Hid (c = 140) := by show _ = _; rw [← HC.out]; exact slotC_addr A.out (.inr (.inr (.inl q5)))
    go_enter Try.func57, Try.ntmps57
    go_wp2_with fail
    refine (len_any base g F S W _ H.out L.out).mono ?_
    rintro e w1 ⟨rfl, rfl⟩
    go_wp2
    go_ret2
    have hE := E.out
    exact .inl ⟨by rw [hE]; decide, hE ▸ rfl, rfl⟩
  by_cases q6 : (W : Int) - n < fi
  · have E : Hid (c = 140) := by show _ = _; rw [← HC.out]; exact slotC_addr A.out (.inr (.inr (.inr q6)))
    go_enter Try.func57, Try.ntmps57
    go_wp2_with fail
    refine (len_any base g F S W _ H.out L.out).mono ?_
    rintro e w1 ⟨rfl, rfl⟩
    go_wp2
    go_ret2
    have hE := E.out
    exact .inl ⟨by rw [hE]; decide, hE ▸ rfl, rfl⟩
  have D : Hid (¬ (ep < 0 ∨ (W : Int) ≤ ep ∨ fi < 0 ∨ (W : Int) - n < fi)) := by show ¬ _; omega
  have he1 : ep < (W : Int) := by omega
  have hf1 : fi ≤ (W : Int) - n := by omega
  by_cases q7 : fi ≤ ep
  · by_cases q8 : ep - fi < n
    · have E : Hid (c = 1) := by show _ = _; rw [← HC.out]; exact slotC_arg A.out D.out ⟨q7, q8⟩
      go_enter Try.func57, Try.ntmps57
      go_wp2_with fail
      refine (len_any base g F S W _ H.out L.out).mono ?_
      rintro e w1 ⟨rfl, rfl⟩
      go_wp2
      go_ret2
      have hE := E.out
      exact .inl ⟨by rw [hE]; decide, hE ▸ rfl, rfl⟩
    · have E : Hid (c = 0) := by show _ = _; rw [← HC.out]; exact slotC_ok A.out D.out fun h => q8 h.2
      go_enter Try.func57, Try.ntmps57
      go_wp2_with fail
      refine (len_any base g F S W _ H.out L.out).mono ?_
      rintro e w1 ⟨rfl, rfl⟩
      go_wp2
      go_ret2
      exact .inr ⟨E.out, rfl, rfl⟩
  · have E : Hid (c = 0) := by show _ = _; rw [← HC.out]; exact slotC_ok A.out D.out fun h => q7 h.1
    go_enter Try.func57, Try.ntmps57
    go_wp2_with fail
    refine (len_any base g F S W _ H.out L.out).mono ?_
    rintro e w1 ⟨rfl, rfl⟩
    go_wp2
    go_ret2
    exact .inr ⟨E.out, rfl, rfl⟩
end
set_option maxRecDepth 100000 in
set_option maxHeartbeats 1000000 in
theorem traces_any (A A' : Option Addr) (n c c' : Nat) (xs : List Acc) (w : World) (h : Rd w A n 5 (xs.flatMap fAcc)) (h' : Rd w A' n 5 (xs.flatMap fAcc)) (hl : xs.length = n) (hn : n ≤ 140737488355328) :
    Calls Try.prog 65 #[.slice A n c, .slice A' n c'] w fun e w' => e = .returned (.bool true) ∧ Below w.heap.size w w' := by
  have R := Mm.hid h
  have R' := Mm.hid h'
  have L := Mm.hid hl
  clear h h' hl
  go_enter Try.func65, Try.ntmps65
  go_wp2_with fail
  go_loopw [5] (fun i wr => ∃ k : Nat, k ≤ n ∧ i = .int .i64 (k : Nat) ∧ Hid (Fr (fun _ => False) w wr)) (fun i _ => n - (intOf i).toNat)
  case atStart => exact ⟨0, Nat.zero_le _, rfl, Fr.refl _ _⟩
  case round =>
    obtain ⟨k, hk, rfl, HB⟩ := hrel
    by_cases hlt : k < n
    · obtain ⟨x, hx⟩ : ∃ x, xs[k]? = some x := ⟨_, List.getElem?_eq_getElem (by rw [L.out]; exact hlt)⟩
      obtain ⟨ad, rfl, f0, f1, f2, f3, f4⟩ := accR (HB.out.rd R.out (fun _ _ h => h)) L.out hx
      obtain ⟨ad', rfl, g0, g1, g2, g3, g4⟩ := accR (HB.out.rd R'.out (fun _ _ h => h)) L.out hx
      clear hx
      go_upto_region 6 with (fail)
      go_quiet (fail)
      have HB2 : Hid (Fr (fun _ => False) w (wr.drewN nq)) := HB.out.trans (Fr.drewN (fun _ => False) wr nq) fun _ _ h => h
      clear f0 f1 f2 f3 f4 g0 g1 g2 g3 g4
      go_wp2_with fail
      go_roundw
      case rel => exact ⟨k + 1, by omega, by go_num, HB2.out⟩
      case measure => simp [intOf] <;> omega
    · have BL : Hid (Below w.heap.size w wr) := HB.out.below (fun _ h => h.elim) (Nat.le_refl _)
      go_wp2
      go_ret
      exact ⟨rfl, BL.out⟩
end Go.Proofs.Ytkbobgblohohcaa

/- Walks: the document's lock and its waiters. -/
import Derived.Test.YtkbobgblohohcaaScA
import Derived.Test.YtkbobgblohohcaaRefC
import Derived.StillTailTactics
namespace Go.Proofs.Ytkbobgblohohcaa
open Go.RowKit Go.Mm Go.Cells
theorem renter_any (kb : Nat) (w : World) : Calls Try.prog 87 #[.pointer (some ⟨kb, 0, none⟩)] w fun e w' => e = .returned (.pointer (some ⟨w.heap.size, 0, none⟩)) ∧ w' = w.alloc (.cells #[.pointer (some ⟨kb, 0, none⟩), .int .i64 0, .int .i64 0] 177) := by
  go_enter Try.func87, Try.ntmps87
  go_wp2
  go_ret
  exact ⟨rfl, rfl⟩
/-- the document's word for how far a waiter is -/
def stN (W : Wt) : Int := if W.holds = true then 2 else if W.drawn = true then 1 else 0
def WtOK (W : Wt) : Prop := W.holds = true → W.drawn = true
theorem rticket_any (qb kb : Nat) (W : Wt) (ok : WtOK W) (t : Int) (ht : (if W.drawn then W.num else -1) = t) (w : World) (hW : Blk w qb 177 #[.pointer (some ⟨kb, 0, none⟩), .int .i64 (stN W), .int .i64 W.num]) :
    Calls Try.prog 92 #[.pointer (some ⟨qb, 0, none⟩)] w fun e w' => e = .returned (.int .i64 t) ∧ w = w' := by
  obtain ⟨num, drawn, holds⟩ := W
  have c1 := hW.cell 1
  have c2 : w.cell? ⟨qb, 2, none⟩ = some (.int .i64 num) := hW.cell 2
  simp only [List.getElem?_toArray, List.getElem?_cons_zero, List.getElem?_cons_succ] at c1
  clear hW
  cases holds
  · cases drawn
    · have e : -1 = t := ht
      subst e
      clear ht
      replace c1 : w.cell? ⟨qb, 1, none⟩ = some (.int .i64 0) := c1
      go_enter Try.func92, Try.ntmps92
      go_wp2
      go_ret
      exact ⟨rfl, rfl⟩
    · have e : num = t := ht
      subst e
      clear ht
      replace c1 : w.cell? ⟨qb, 1, none⟩ = some (.int .i64 1) := c1
      go_enter Try.func92, Try.ntmps92
      go_wp2
      go_ret
      exact ⟨rfl, rfl⟩
  · obtain rfl : drawn = true := ok rfl
    have e : num = t := ht
    subst e
    clear ht
    replace c1 : w.cell? ⟨qb, 1, none⟩ = some (.int .i64 2) := c1
    go_enter Try.func92, Try.ntmps92
    go_wp2
    go_ret
    exact ⟨rfl, rfl⟩
section
variable {base r lb : Nat} {F : Nat → Prop} {w : World} {S : Cm}
set_option maxRecDepth 100000 in
set_option maxHeartbeats 1000000 in
theorem rleave_any (a b : Int) (kb : Nat) (h : RMem base F w r lb S) (hK : Blk w kb 148 #[.pointer (some ⟨r, 0, none⟩), .int .i64 a, .int .i64 b]) (hB : base ≤ w.heap.size)
    (hb : S.bad ≤ 4611686018427387904) (hn : (S.tr.length + 1) * 40 ≤ 140737488355328) (hlb : (lb + 1) * 24 ≤ 140737488355328) :
    Calls Try.prog 88 #[.pointer (some ⟨kb, 0, none⟩)] w (ROpE base F r (lb + 1) (S.add b 1) (.int .i64 (S.look b).2) w) := by
  have H : Hid (RMem base F w.drew r lb S) := h.fr (Fr.drew (fun _ => False) w) fun _ _ h => h
  have c0 := hK.cell 0
  have c2 := hK.cell 2
  simp only [List.getElem?_toArray, List.getElem?_cons_zero, List.getElem?_cons_succ] at c0 c2
  obtain ⟨q, hr⟩ : ∃ q, S.look b = q := ⟨_, rfl⟩
  have L := Mm.hid hr
  rw [hr]
  have HB := Mm.hid hb
  have HN := Mm.hid hn
  have LBD := Mm.hid hlb
  clear h hK hr hb hn hlb
  obtain ⟨v, e⟩ := q
  go_enter Try.func88, Try.ntmps88
  go_wp2_with fail
  go_region_with (go_at_call 107; refine (radd_any b 1 H.out hB HB.out HN.out LBD.out).mono ?_; rintro e' w2 ⟨rfl, t2⟩; rw [L.out]; have T2 := Mm.hid (RT.after (Fr.drew F w) t2); clear t2)
  all_goals go_wp2
  all_goals go_ret
  all_goals exact ⟨rfl, T2.out⟩
def RStE (base : Nat) (F : Nat → Prop) (r lb qb kb : Nat) (t : Bool) (W : Wt) (S' : Cm) (w : World) (e : Ending) (w' : World) : Prop :=
  e = .returned (.bool t) ∧ Blk w' qb 177 #[.pointer (some ⟨kb, 0, none⟩), .int .i64 (stN W), .int .i64 W.num] ∧ RTX base F (fun k => k = qb) w r lb S' w'
theorem RTX.write {X : Nat → Prop} {S' : Cm} {w1 w2 : World} (h : RT base F w r lb S' w1) (hf : Fr X w1 w2) (hX : ∀ k, X k → k < w.heap.size ∧ ¬ F k) : RTX base F X w r lb S' w2 := by
  obtain ⟨F', m, hs, hf1⟩ := h.out
  refine ⟨F', m.fr hf fun k hk hx => ?_, hs, (hf1.mono fun _ h => .inl h).trans hf fun k _ hk => .inr hk⟩
  rcases hs k hk with h | h
  · exact (hX k hx).2 h
  · have := (hX k hx).1; omega
set_option maxRecDepth 100000 in
set_option maxHeartbeats 2000000 in
theorem rstep_any (a b : Int) (qb kb : Nat) (W : Wt) (h : RMem base F w r lb S) (hq : ¬ F qb) (hqk : ¬ F kb) (hW : Blk w qb 177 #[.pointer (some ⟨kb, 0, none⟩), .int .i64 (stN W), .int .i64 W.num]) (hK : Blk w kb 148 #[.pointer (some ⟨r, 0, none⟩), .int .i64 a, .int .i64 b]) (hB : base ≤ w.heap.size)
    (hb : S.bad ≤ 4611686018427387904) (hn : (S.tr.length + 1) * 40 ≤ 140737488355328) (hlb : (lb + 1) * 24 ≤ 140737488355328) :
    Calls Try.prog 90 #[.pointer (some ⟨qb, 0, none⟩)] w (RStE base F r (lb + 1) qb kb (stepW a b W S).1 (stepW a b W S).2.1 (stepW a b W S).2.2 w) := by
  have H : Hid (RMem base F w.drew r lb S) := h.fr (Fr.drew (fun _ => False) w) fun _ _ h => h
  have H0 := Mm.hid h
  have HW := Mm.hid hW
  have NQ := Mm.hid hq
  have NK := Mm.hid hqk
  have HK := Mm.hid hK
  have hlq := hW.lt
  obtain ⟨num, drawn, holds⟩ := W
  have c0 := hW.cell 0
  have c1 := hW.cell 1
  have c2 := hW.cell 2
  have k0 := hK.cell 0
  have k1 := hK.cell 1
  have k2 := hK.cell 2
  simp only [List.getElem?_toArray, List.getElem?_cons_zero, List.getElem?_cons_succ] at c0 c1 c2 k0 k1 k2
  have HB := Mm.hid hb
  have HN := Mm.hid hn
  have LBD := Mm.hid hlb
  clear h hK hW hb hn hlb hq hqk
  cases holds
  · cases drawn
    · replace c1 : w.cell? ⟨qb, 1, none⟩ = some (.int .i64 0) := c1
      obtain ⟨q, hr⟩ : ∃ q, S.look a = q := ⟨_, rfl⟩
      have L := Mm.hid hr
      obtain ⟨v, e⟩ := q
      obtain ⟨W', hW'⟩ : ∃ W', (if e = 0 then (⟨v, true, false⟩ : Wt) else ⟨num, false, false⟩) = W' := ⟨_, rfl⟩
      have E : Hid (stepW a b ⟨num, false, false⟩ S = (false, W', S.add a 1)) := by
        show _ = _
        unfold stepW
        rw [hr, ← hW']
        rfl
      have EW := Mm.hid hW'
      clear hW'
      rw [E.out]
      clear hr
      by_cases he : e = 0
      · subst he
        have hw' : (⟨v, true, false⟩ : Wt) = W' := EW.out
        subst hw'
        go_enter Try.func90, Try.ntmps90
        go_wp2_with fail
        go_region_held3 (fun w' => w'.cell? ⟨qb, 0, none⟩ = some (.pointer (some ⟨kb, 0, none⟩)) ∧ w'.cell? ⟨kb, 0, none⟩ = some (.pointer (some ⟨r, 0, none⟩)) ∧ w'.cell? ⟨kb, 1, none⟩ = some (.int .i64 a)) (go_keep)
          (first | (go_at_call 107; refine (radd_any a 1 H.out hB HB.out HN.out LBD.out).mono ?_; rintro e' w2 ⟨rfl, t2⟩; rw [L.out]; have T2 := Mm.hid (RT.after (Fr.drew F w) t2); obtain ⟨_, _, _, hf⟩ := T2.out.out; have y0 : w2.cell? ⟨qb, 0, none⟩ = some (.pointer (some ⟨kb, 0, none⟩)) := (hf.blk HW.out NQ.out).cell 0; have y1 : w2.cell? ⟨kb, 0, none⟩ = some (.pointer (some ⟨r, 0, none⟩)) := (hf.blk HK.out NK.out).cell 0; have y2 : w2.cell? ⟨kb, 1, none⟩ = some (.int .i64 a) := (hf.blk HK.out NK.out).cell 1; clear t2 hf))
        all_goals (
          have W2 : Hid (Blk w2 qb 177 #[.pointer (some ⟨kb, 0, none⟩), .int .i64 0, .int .i64 num]) := by
            obtain ⟨_, _, _, hf⟩ := T2.out.out
            exact hf.blk HW.out NQ.out
          have d1 : w2.cell? ⟨qb, 1, none⟩ = some (.int .i64 0) := W2.out.cell 1
          have d2 : w2.cell? ⟨qb, 2, none⟩ = some (.int .i64 num) := W2.out.cell 2
          have z1 : w2.frozen? ⟨qb, 1, none⟩ = false := W2.out.free 1
          have z2 : w2.frozen? ⟨qb, 2, none⟩ = false := W2.out.free 2
          have W3 := Mm.hid ((W2.out.set 1 (.int .i64 1)).set 2 (.int .i64 v))
          have hf := (Fr.setCell w2 ⟨qb, 1, none⟩ (.int .i64 1)).trans (Fr.setCell _ ⟨qb, 2, none⟩ (.int .i64 v)) fun _ _ h => h
          have T3 := Mm.hid (RTX.write T2.out hf fun k hk => by have e : k = qb := hk; subst e; exact ⟨hlq, NQ.out⟩)
          clear hf c0 c1 c2 k0 k1 k2
          go_wp2
          go_ret
          exact ⟨rfl, W3.out, T3.out⟩)
      · have heb : (e == 0) = false := beq_eq_false_iff_ne.2 he
        have hw' : (⟨num, false, false⟩ : Wt) = W' := (if_neg he).symm.trans EW.out
        subst hw'
        clear he
        go_enter Try.func90, Try.ntmps90
        go_wp2_with fail
        go_region_held3 (fun w' => w'.cell? ⟨qb, 0, none⟩ = some (.pointer (some ⟨kb, 0, none⟩)) ∧ w'.cell? ⟨kb, 0, none⟩ = some (.pointer (some ⟨r, 0, none⟩)) ∧ w'.cell? ⟨kb, 1, none⟩ = some (.int .i64 a)) (go_keep)
          (first | (go_at_call 107; refine (radd_any a 1 H.out hB HB.out HN.out LBD.out).mono ?_; rintro e' w2 ⟨rfl, t2⟩; rw [L.out]; have T2 := Mm.hid (RT.after (Fr.drew F w) t2); obtain ⟨_, _, _, hf⟩ := T2.out.out; have y0 : w2.cell? ⟨qb, 0, none⟩ = some (.pointer (some ⟨kb, 0, none⟩)) := (hf.blk HW.out NQ.out).cell 0; have y1 : w2.cell? ⟨kb, 0, none⟩ = some (.pointer (some ⟨r, 0, none⟩)) := (hf.blk HK.out NK.out).cell 0; have y2 : w2.cell? ⟨kb, 1, none⟩ = some (.int .i64 a) := (hf.blk HK.out NK.out).cell 1; clear t2 hf))
        all_goals (
          have W2 : Hid (Blk w2 qb 177 #[.pointer (some ⟨kb, 0, none⟩), .int .i64 0, .int .i64 num]) := by
            obtain ⟨_, _, _, hf⟩ := T2.out.out
            exact hf.blk HW.out NQ.out
          clear c0 c1 c2 k0 k1 k2 y0 y1 y2
          go_wp2
          go_ret
          exact ⟨rfl, W2.out, RTX.of T2.out⟩)
    · replace c1 : w.cell? ⟨qb, 1, none⟩ = some (.int .i64 1) := c1
      obtain ⟨q, hr⟩ : ∃ q, S.look b = q := ⟨_, rfl⟩
      have L := Mm.hid hr
      obtain ⟨v, e⟩ := q
      obtain ⟨t, ht⟩ : ∃ t, (e == 0 && v == num) = t := ⟨_, rfl⟩
      have E : Hid (stepW a b ⟨num, true, false⟩ S = (t, ⟨num, true, t⟩, S.load b)) := by
        show _ = _
        unfold stepW
        rw [hr, ← ht]
        rfl
      have T := Mm.hid ht
      clear ht
      rw [E.out]
      clear hr
      have key : Hid (∀ w2, RT base F w r (lb + 1) (S.load b) w2 → (t = true → RStE base F r (lb + 1) qb kb t ⟨num, true, t⟩ (S.load b) w (.returned (.bool true)) (w2.setCell ⟨qb, 1, none⟩ (.int .i64 2))) ∧ (t = false → RStE base F r (lb + 1) qb kb t ⟨num, true, t⟩ (S.load b) w (.returned (.bool false)) w2)) := by
        intro w2 T2
        have W2 : Blk w2 qb 177 #[.pointer (some ⟨kb, 0, none⟩), .int .i64 1, .int .i64 num] := by
          obtain ⟨_, _, _, hf⟩ := T2.out
          exact hf.blk HW.out NQ.out
        refine ⟨fun ht => ?_, fun ht => ?_⟩ <;> subst ht
        · exact ⟨rfl, W2.set 1 (.int .i64 2), RTX.write T2 (Fr.setCell w2 ⟨qb, 1, none⟩ (.int .i64 2)) fun k hk => by have e : k = qb := hk; subst e; exact ⟨hlq, NQ.out⟩⟩
        · exact ⟨rfl, W2, RTX.of T2⟩
      cases he : (e == 0)
      · have ht : t = false := by rw [← T.out, he]; rfl
        subst ht
        go_enter Try.func90, Try.ntmps90
        go_wp2_with fail
        go_region_held3 (fun w' => w'.cell? ⟨qb, 0, none⟩ = some (.pointer (some ⟨kb, 0, none⟩)) ∧ w'.cell? ⟨kb, 0, none⟩ = some (.pointer (some ⟨r, 0, none⟩)) ∧ w'.cell? ⟨kb, 2, none⟩ = some (.int .i64 b)) (go_keep)
          (first | (go_at_call 105; refine (rload_any b H.out hB HB.out HN.out LBD.out).mono ?_; rintro e' w2 ⟨rfl, t2⟩; rw [L.out]; have T2 := Mm.hid (RT.after (Fr.drew F w) t2); obtain ⟨_, _, _, hf⟩ := T2.out.out; have y0 : w2.cell? ⟨qb, 0, none⟩ = some (.pointer (some ⟨kb, 0, none⟩)) := (hf.blk HW.out NQ.out).cell 0; have y1 : w2.cell? ⟨kb, 0, none⟩ = some (.pointer (some ⟨r, 0, none⟩)) := (hf.blk HK.out NK.out).cell 0; have y2 : w2.cell? ⟨kb, 2, none⟩ = some (.int .i64 b) := (hf.blk HK.out NK.out).cell 2; clear t2 hf))
        all_goals (
          have W2 : Hid (Blk w2 qb 177 #[.pointer (some ⟨kb, 0, none⟩), .int .i64 1, .int .i64 num]) := by
            obtain ⟨_, _, _, hf⟩ := T2.out.out
            exact hf.blk HW.out NQ.out
          have d1 : w2.cell? ⟨qb, 1, none⟩ = some (.int .i64 1) := W2.out.cell 1
          have d2 : w2.cell? ⟨qb, 2, none⟩ = some (.int .i64 num) := W2.out.cell 2
          clear c0 c1 c2 k0 k1 k2 y0 y1 y2
          go_wp2
          go_ret
          exact (key.out w2 T2.out).2 (by trivial))
      · cases hv : (v == num)
        · have ht : t = false := by rw [← T.out, he, hv]; rfl
          subst ht
          go_enter Try.func90, Try.ntmps90
          go_wp2_with fail
          go_region_held3 (fun w' => w'.cell? ⟨qb, 0, none⟩ = some (.pointer (some ⟨kb, 0, none⟩)) ∧ w'.cell? ⟨kb, 0, none⟩ = some (.pointer (some ⟨r, 0, none⟩)) ∧ w'.cell? ⟨kb, 2, none⟩ = some (.int .i64 b)) (go_keep)
          (first | (go_at_call 105; refine (rload_any b H.out hB HB.out HN.out LBD.out).mono ?_; rintro e' w2 ⟨rfl, t2⟩; rw [L.out]; have T2 := Mm.hid (RT.after (Fr.drew F w) t2); obtain ⟨_, _, _, hf⟩ := T2.out.out; have y0 : w2.cell? ⟨qb, 0, none⟩ = some (.pointer (some ⟨kb, 0, none⟩)) := (hf.blk HW.out NQ.out).cell 0; have y1 : w2.cell? ⟨kb, 0, none⟩ = some (.pointer (some ⟨r, 0, none⟩)) := (hf.blk HK.out NK.out).cell 0; have y2 : w2.cell? ⟨kb, 2, none⟩ = some (.int .i64 b) := (hf.blk HK.out NK.out).cell 2; clear t2 hf))
          all_goals (
            have W2 : Hid (Blk w2 qb 177 #[.pointer (some ⟨kb, 0, none⟩), .int .i64 1, .int .i64 num]) := by
              obtain ⟨_, _, _, hf⟩ := T2.out.out
              exact hf.blk HW.out NQ.out
            have d1 : w2.cell? ⟨qb, 1, none⟩ = some (.int .i64 1) := W2.out.cell 1
            have d2 : w2.cell? ⟨qb, 2, none⟩ = some (.int .i64 num) := W2.out.cell 2
            clear c0 c1 c2 k0 k1 k2 y0 y1 y2
            go_wp2
            go_ret
            exact (key.out w2 T2.out).2 (by trivial))
        · have ht : t = true := by rw [← T.out, he, hv]; rfl
          subst ht
          go_enter Try.func90, Try.ntmps90
          go_wp2_with fail
          go_region_held3 (fun w' => w'.cell? ⟨qb, 0, none⟩ = some (.pointer (some ⟨kb, 0, none⟩)) ∧ w'.cell? ⟨kb, 0, none⟩ = some (.pointer (some ⟨r, 0, none⟩)) ∧ w'.cell? ⟨kb, 2, none⟩ = some (.int .i64 b)) (go_keep)
          (first | (go_at_call 105; refine (rload_any b H.out hB HB.out HN.out LBD.out).mono ?_; rintro e' w2 ⟨rfl, t2⟩; rw [L.out]; have T2 := Mm.hid (RT.after (Fr.drew F w) t2); obtain ⟨_, _, _, hf⟩ := T2.out.out; have y0 : w2.cell? ⟨qb, 0, none⟩ = some (.pointer (some ⟨kb, 0, none⟩)) := (hf.blk HW.out NQ.out).cell 0; have y1 : w2.cell? ⟨kb, 0, none⟩ = some (.pointer (some ⟨r, 0, none⟩)) := (hf.blk HK.out NK.out).cell 0; have y2 : w2.cell? ⟨kb, 2, none⟩ = some (.int .i64 b) := (hf.blk HK.out NK.out).cell 2; clear t2 hf))
          all_goals (
            have W2 : Hid (Blk w2 qb 177 #[.pointer (some ⟨kb, 0, none⟩), .int .i64 1, .int .i64 num]) := by
              obtain ⟨_, _, _, hf⟩ := T2.out.out
              exact hf.blk HW.out NQ.out
            have d1 : w2.cell? ⟨qb, 1, none⟩ = some (.int .i64 1) := W2.out.cell 1
            have d2 : w2.cell? ⟨qb, 2, none⟩ = some (.int .i64 num) := W2.out.cell 2
            have z1 : w2.frozen? ⟨qb, 1, none⟩ = false := W2.out.free 1
            clear c0 c1 c2 k0 k1 k2 y0 y1 y2
            go_wp2
            go_ret
            exact (key.out w2 T2.out).1 (by trivial))
  · replace c1 : w.cell? ⟨qb, 1, none⟩ = some (.int .i64 2) := c1
    have E : Hid (stepW a b ⟨num, drawn, true⟩ S = (true, ⟨num, drawn, true⟩, S)) := rfl
    rw [E.out]
    go_enter Try.func90, Try.ntmps90
    go_wp2
    go_ret
    exact ⟨rfl, HW.out, RTX.of (RT.mono (RT.of H0.out) (Nat.le_succ lb))⟩
def RRdE (t : Bool) (w : World) (e : Ending) (w' : World) : Prop := e = .returned (.bool t) ∧ Below w.heap.size w w'
theorem below_drewN (w : World) (d : Nat) : Below w.heap.size w (w.drewN d) := ⟨rfl, rfl, rfl, Nat.le_refl _, fun _ _ => rfl⟩
set_option maxRecDepth 100000 in
set_option maxHeartbeats 1000000 in
theorem rready_any (a : Int) (j : Nat) (x : Int) (hx : S.ws[j]? = some x) (qb kb : Nat) (W : Wt) (ok : WtOK W) (h : RMem base F w r lb S) (hW : Blk w qb 177 #[.pointer (some ⟨kb, 0, none⟩), .int .i64 (stN W), .int .i64 W.num]) (hK : Blk w kb 148 #[.pointer (some ⟨r, 0, none⟩), .int .i64 a, .int .i64 (j : Int)]) (hlb : (lb + 1) * 24 ≤ 140737488355328) :
    Calls Try.prog 91 #[.pointer (some ⟨qb, 0, none⟩)] w (RRdE (readyW x W) w) := by
  have H : Hid (∀ d, RMem base F (w.drewN d) r lb S) := fun d => h.fr (Fr.drewN (fun _ => False) w d) fun _ _ h => h
  have HW := Mm.hid hW
  have HK := Mm.hid hK
  have X := Mm.hid hx
  have LBD := Mm.hid hlb
  have hlq := hW.lt
  have hlk := hK.lt
  obtain ⟨num, drawn, holds⟩ := W
  have c0 := hW.cell 0
  have c1 := hW.cell 1
  have c2 := hW.cell 2
  have k0 := hK.cell 0
  have k1 := hK.cell 1
  have k2 := hK.cell 2
  simp only [List.getElem?_toArray, List.getElem?_cons_zero, List.getElem?_cons_succ] at c0 c1 c2 k0 k1 k2
  clear h hK hW hx hlb
  cases holds
  · cases drawn
    · replace c1 : w.cell? ⟨qb, 1, none⟩ = some (.int .i64 0) := c1
      have E : Hid (readyW x ⟨num, false, false⟩ = true) := rfl
      rw [E.out]
      go_enter Try.func91, Try.ntmps91
      go_wp2_with fail
      go_quiet (fail)
      go_wp2
      go_ret
      exact ⟨rfl, below_drewN w _⟩
    · replace c1 : w.cell? ⟨qb, 1, none⟩ = some (.int .i64 1) := c1
      have E : Hid (readyW x ⟨num, true, false⟩ = (x == num)) := rfl
      rw [E.out]
      go_enter Try.func91, Try.ntmps91
      go_wp2_with fail
      go_region_held3 (fun w' => w'.cell? ⟨qb, 0, none⟩ = some (.pointer (some ⟨kb, 0, none⟩)) ∧ w'.cell? ⟨qb, 1, none⟩ = some (.int .i64 1) ∧ w'.cell? ⟨qb, 2, none⟩ = some (.int .i64 num) ∧ w'.cell? ⟨kb, 0, none⟩ = some (.pointer (some ⟨r, 0, none⟩)) ∧ w'.cell? ⟨kb, 2, none⟩ = some (.int .i64 (j : Int))) (go_keep)
        (first | (go_at_call 70; refine (rword_any (by exact H.out 1) j x X.out LBD.out).mono ?_; rintro e w2 ⟨rfl, b2⟩; have y0 : w2.cell? ⟨qb, 0, none⟩ = some (.pointer (some ⟨kb, 0, none⟩)) := (HW.out.keep (b2.block qb hlq)).cell 0; have y1 : w2.cell? ⟨qb, 1, none⟩ = some (.int .i64 1) := (HW.out.keep (b2.block qb hlq)).cell 1; have y2 : w2.cell? ⟨qb, 2, none⟩ = some (.int .i64 num) := (HW.out.keep (b2.block qb hlq)).cell 2; have m0 : w2.cell? ⟨kb, 0, none⟩ = some (.pointer (some ⟨r, 0, none⟩)) := (HK.out.keep (b2.block kb hlk)).cell 0; have m2 : w2.cell? ⟨kb, 2, none⟩ = some (.int .i64 (j : Int)) := (HK.out.keep (b2.block kb hlk)).cell 2; have B2 : Hid (Below w.heap.size w w2) := ⟨b2.os, b2.tape, b2.output, b2.size, b2.block⟩; clear b2))
      all_goals go_wp2
      all_goals go_ret
      all_goals exact ⟨rfl, B2.out⟩
  · replace c1 : w.cell? ⟨qb, 1, none⟩ = some (.int .i64 2) := c1
    have E : Hid (readyW x ⟨num, drawn, true⟩ = true) := rfl
    rw [E.out]
    go_enter Try.func91, Try.ntmps91
    go_wp2_with fail
    go_quiet (fail)
    go_wp2
    go_ret
    exact ⟨rfl, below_drewN w _⟩
end
end Go.Proofs.Ytkbobgblohohcaa

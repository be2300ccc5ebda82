/- Walks: the epoch: slots, sections, grace periods, over a memory. -/
import Derived.Test.YtkbobgblohohcaaReady
import Derived.Test.YtkbobgblohohcaaRefE
namespace Go.Proofs.Ytkbobgblohohcaa
open Go.RowKit Go.Mm Go.Cells
theorem at18_any (x : Int) (n : Nat) (w : World) (hn : 1 ≤ n) (hn' : n ≤ 4294967296) : Calls Try.prog 56 #[.int .i64 x, .int .i64 (n : Int)] w (PickEnds n x w) := by
  have hz : ((n : Int) == 0) = false := by rw [beq_eq_false_iff_ne]; omega
  have hr := Mm.hid (tmod_emod x n (by omega))
  have q1 := Int.emod_nonneg x (show (n : Int) ≠ 0 by omega)
  have q2 := Int.emod_lt_of_pos x (show (0 : Int) < n by omega)
  have fin : ∀ y : Int, y = x % (n : Int) → PickEnds n x w (.returned (.int .i64 y)) w := fun y hy =>
    ⟨(x % (n : Int)).toNat, by omega, by rw [hy, Int.toNat_of_nonneg q1], rfl, Int.toNat_of_nonneg q1⟩
  have FIN := Mm.hid fin
  clear fin
  have hb := Mm.hid (And.intro q1 q2)
  clear q1 q2
  by_cases h : x.tmod n < 0
  · have e1 : Hid (x.tmod n + n = x % (n : Int)) := by have := hr.out; rw [if_pos h] at this; exact this
    have b1 : x.tmod n + n ≤ 4294967296 := by have := e1.out; have := hb.out; omega
    have b2 : 0 ≤ x.tmod n + n := by have := e1.out; have := hb.out; omega
    go_enter Try.func56, Try.ntmps56
    go_wp2
    go_ret
    exact FIN.out _ e1.out
  · have e1 : Hid (x.tmod n = x % (n : Int)) := by have := hr.out; rw [if_neg h] at this; exact this
    go_enter Try.func56, Try.ntmps56
    go_wp2
    go_ret
    exact FIN.out _ e1.out
def goes (mark v : Int) : Bool := v == 0 || decide (mark ≤ v)
section
variable {base g : Nat} {w0 w w' : World} {G : Nat → Prop} {S S' : Cm}
theorem HasG.drewN (h : HasG base g w0 G S w) (d : Nat) : HasG base g w0 G S (w.drewN d) := by
  obtain ⟨F, h1, h2, h3⟩ := h.out
  exact ⟨F, h1.fr (Fr.drewN (fun _ => False) w d) (fun _ _ h => h), ⟨h2.os, h2.tape, h2.output, h2.size, h2.block⟩, h3⟩
theorem lets_any (gr sl : Nat) (mark at_ v : Int) (hW : Blk w gr 159 #[.pointer (some ⟨sl, 0, none⟩), .int .i64 mark, .int .i64 at_]) :
    Calls Try.prog 94 #[.pointer (some ⟨gr, 0, none⟩), .int .i64 v] w fun e w' => e = .returned (.bool (goes mark v)) ∧ w = w' := by
  have c1 : w.cell? ⟨gr, 1, none⟩ = some (.int .i64 mark) := hW.cell 1
  have E : Hid (goes mark v = (v == 0 || decide (mark ≤ v))) := rfl
  rw [E.out]
  clear hW E
  cases hv : (v == 0)
  · by_cases hm : mark ≤ v
    · go_enter Try.func94, Try.ntmps94
      go_wp2
      go_ret
      exact ⟨by simp [hm], rfl⟩
    · go_enter Try.func94, Try.ntmps94
      go_wp2
      go_ret
      exact ⟨by simp [hm], rfl⟩
  · go_enter Try.func94, Try.ntmps94
    go_wp2
    go_ret
    exact ⟨by simp, rfl⟩
set_option maxRecDepth 100000 in
set_option maxHeartbeats 1000000 in
theorem slook_any (h : HasG base g w0 G S w) (sl ep fi n k : Nat) (hs : G sl) (hL : Blk w sl 157 #[.pointer (some ⟨g, 0, none⟩), .int .i64 (ep : Int), .int .i64 (fi : Int), .int .i64 (n : Int)]) (hfi : fi ≤ 65536) (hk : k ≤ 65536)
    (hb : S.bad ≤ 4611686018427387904) (hn : (S.tr.length + 1) * 40 ≤ 140737488355328) :
    Calls Try.prog 95 #[.pointer (some ⟨sl, 0, none⟩), .int .i64 (k : Int)] w (HEG base g w0 w G (S.load ((fi : Int) + (k : Int))) (.int .i64 (S.look ((fi : Int) + (k : Int))).1)) := by
  have Q : Hid (HasG base g w0 G S w.drew) := h.drewN 1
  have l0 : w.cell? ⟨sl, 0, none⟩ = some (.pointer (some ⟨g, 0, none⟩)) := hL.cell 0
  have l2 : w.cell? ⟨sl, 2, none⟩ = some (.int .i64 (fi : Int)) := hL.cell 2
  have HL := Mm.hid hL
  have GS := Mm.hid hs
  obtain ⟨r, hr⟩ : ∃ r, S.look ((fi : Int) + (k : Int)) = r := ⟨_, rfl⟩
  have L := Mm.hid hr
  rw [hr]
  have HB := Mm.hid hb
  have HN := Mm.hid hn
  clear h hL hr hs hb hn
  obtain ⟨v, e⟩ := r
  have hsum : IntKind.i64.wrap ((fi : Int) + (k : Int)) = (fi : Int) + (k : Int) := IntWalk.i64_in _ (by omega)
  go_enter Try.func95, Try.ntmps95
  go_wp2_with fail
  go_region_held3 (fun w' => w'.cell? ⟨sl, 0, none⟩ = some (.pointer (some ⟨g, 0, none⟩)) ∧ w'.cell? ⟨sl, 2, none⟩ = some (.int .i64 (fi : Int))) (go_keep)
    (first | (go_at_call 21; refine (Q.out.op fun F m1 m2 => load_any _ g F S ((fi : Int) + (k : Int)) _ m1 m2 HB.out HN.out).mono ?_; rintro e' w2 ⟨rfl, h2, k2⟩; rw [L.out]; have H2 : Hid (HasG base g w0 G (S.load ((fi : Int) + (k : Int))) w2 ∧ ∀ k, G k → w2.heap[k]? = w.heap[k]?) := ⟨h2, fun k hk => k2 k hk⟩; have y0 : w2.cell? ⟨sl, 0, none⟩ = some (.pointer (some ⟨g, 0, none⟩)) := (HL.out.keep (H2.out.2 sl GS.out)).cell 0; have y2 : w2.cell? ⟨sl, 2, none⟩ = some (.int .i64 (fi : Int)) := (HL.out.keep (H2.out.2 sl GS.out)).cell 2; clear h2 k2))
  all_goals (
    clear hsum
    go_wp2
    go_ret
    exact ⟨rfl, H2.out⟩)
set_option maxRecDepth 100000 in
set_option maxHeartbeats 1000000 in
theorem stell_any (h : HasG base g w0 G S w) (sl ep fi n k : Nat) (y : Int) (hs : G sl) (hL : Blk w sl 157 #[.pointer (some ⟨g, 0, none⟩), .int .i64 (ep : Int), .int .i64 (fi : Int), .int .i64 (n : Int)]) (hfi : fi ≤ 65536) (hk : k ≤ 65536)
    (hb : S.bad ≤ 4611686018427387904) (hn : (S.tr.length + 1) * 40 ≤ 140737488355328) :
    Calls Try.prog 96 #[.pointer (some ⟨sl, 0, none⟩), .int .i64 (k : Int), .int .i64 y] w (HEG base g w0 w G (S.store ((fi : Int) + (k : Int)) y) (.int .i64 (S.look ((fi : Int) + (k : Int))).2)) := by
  have Q : Hid (HasG base g w0 G S w.drew) := h.drewN 1
  have l0 : w.cell? ⟨sl, 0, none⟩ = some (.pointer (some ⟨g, 0, none⟩)) := hL.cell 0
  have l2 : w.cell? ⟨sl, 2, none⟩ = some (.int .i64 (fi : Int)) := hL.cell 2
  have HL := Mm.hid hL
  have GS := Mm.hid hs
  obtain ⟨r, hr⟩ : ∃ r, S.look ((fi : Int) + (k : Int)) = r := ⟨_, rfl⟩
  have L := Mm.hid hr
  rw [hr]
  have HB := Mm.hid hb
  have HN := Mm.hid hn
  clear h hL hr hs hb hn
  obtain ⟨v, e⟩ := r
  have hsum : IntKind.i64.wrap ((fi : Int) + (k : Int)) = (fi : Int) + (k : Int) := IntWalk.i64_in _ (by omega)
  go_enter Try.func96, Try.ntmps96
  go_wp2_with fail
  go_region_held3 (fun w' => w'.cell? ⟨sl, 0, none⟩ = some (.pointer (some ⟨g, 0, none⟩)) ∧ w'.cell? ⟨sl, 2, none⟩ = some (.int .i64 (fi : Int))) (go_keep)
    (first | (go_at_call 20; refine (Q.out.op fun F m1 m2 => store_any _ g F S ((fi : Int) + (k : Int)) _ y m1 m2 HB.out HN.out).mono ?_; rintro e' w2 ⟨rfl, h2, k2⟩; rw [L.out]; have H2 : Hid (HasG base g w0 G (S.store ((fi : Int) + (k : Int)) y) w2 ∧ ∀ k, G k → w2.heap[k]? = w.heap[k]?) := ⟨h2, fun k hk => k2 k hk⟩; have y0 : w2.cell? ⟨sl, 0, none⟩ = some (.pointer (some ⟨g, 0, none⟩)) := (HL.out.keep (H2.out.2 sl GS.out)).cell 0; have y2 : w2.cell? ⟨sl, 2, none⟩ = some (.int .i64 (fi : Int)) := (HL.out.keep (H2.out.2 sl GS.out)).cell 2; clear h2 k2))
  all_goals (
    clear hsum
    go_wp2
    go_ret
    exact ⟨rfl, H2.out⟩)
set_option maxRecDepth 100000 in
set_option maxHeartbeats 1000000 in
theorem snow_any (h : HasG base g w0 G S w) (sl ep fi n k : Nat) (x : Int) (hx : S.ws[fi + k]? = some x) (hL : Blk w sl 157 #[.pointer (some ⟨g, 0, none⟩), .int .i64 (ep : Int), .int .i64 (fi : Int), .int .i64 (n : Int)]) (hfi : fi ≤ 65536) (hk : k ≤ 65536) :
    Calls Try.prog 97 #[.pointer (some ⟨sl, 0, none⟩), .int .i64 (k : Int)] w (FreshE base g w0 w G S (.int .i64 x)) := by
  have Q : Hid (HasG base g w0 G S w.drew) := h.drewN 1
  have l0 : w.cell? ⟨sl, 0, none⟩ = some (.pointer (some ⟨g, 0, none⟩)) := hL.cell 0
  have l2 : w.cell? ⟨sl, 2, none⟩ = some (.int .i64 (fi : Int)) := hL.cell 2
  have HL := Mm.hid hL
  have hsl := hL.lt
  obtain ⟨v1, v2⟩ := words_one hx
  rw [Int.natCast_add] at v1 v2
  have V1 := Mm.hid v1
  have V2 := Mm.hid v2
  obtain ⟨F, f1, _⟩ := Q.out.out
  have MB := Mm.hid f1
  clear h hL v1 v2 hx f1
  have hsum : IntKind.i64.wrap ((fi : Int) + (k : Int)) = (fi : Int) + (k : Int) := IntWalk.i64_in _ (by omega)
  go_enter Try.func97, Try.ntmps97
  go_wp2_with fail
  go_region_held3 (fun w' => w'.cell? ⟨sl, 0, none⟩ = some (.pointer (some ⟨g, 0, none⟩)) ∧ w'.cell? ⟨sl, 2, none⟩ = some (.int .i64 (fi : Int))) (go_keep)
    (first | (go_at_call 26; refine (words_any base g F S ((fi : Int) + (k : Int)) 1 _ MB.out (by decide)).mono ?_; rintro e w3 ⟨A3, m3, c3, rfl, hc3, O3⟩; rw [V2.out]; have B3 : Hid (Below w.heap.size w w3) := ⟨O3.out.2.2.os, O3.out.2.2.tape, O3.out.2.2.output, O3.out.2.2.size, O3.out.2.2.block⟩; have H3 := Mm.hid (Q.out.after O3.out.2.2).1; have y0 : w3.cell? ⟨sl, 0, none⟩ = some (.pointer (some ⟨g, 0, none⟩)) := (HL.out.keep (B3.out.block sl hsl)).cell 0; have y2 : w3.cell? ⟨sl, 2, none⟩ = some (.int .i64 (fi : Int)) := (HL.out.keep (B3.out.block sl hsl)).cell 2))
  all_goals (
    obtain ⟨o1, o2, o3⟩ := O3.out
    rw [V1.out] at o1 o2
    simp only [List.length_cons, List.length_nil] at o1
    obtain rfl : m3 = 1 := by omega
    obtain ⟨g3, cap3, hA3, _, _, _, hcell, _⟩ := own_blk o2 (by decide)
    injection hA3 with e1 _ e3
    subst e1
    subst e3
    have f3 : w3.cell? ⟨g3, 0, none⟩ = some (.int .i64 x) := hcell 0 _ rfl
    clear O3 o1 o2 o3 hcell hsum
    go_wp2
    go_ret
    exact ⟨rfl, H3.out, B3.out⟩)
/-- a step of a section -/
def SecE (base g : Nat) (w0 w : World) (G : Nat → Prop) (xb sl slot : Nat) (r : Bool) (steps seen : Int) (S' : Cm) (e : Ending) (w' : World) : Prop :=
  e = .returned (.bool r) ∧ HasG base g w0 G S' w' ∧ Blk w' xb 161 #[.pointer (some ⟨sl, 0, none⟩), .int .i64 (slot : Int), .int .i64 steps, .int .i64 seen] ∧ ∀ k, G k → k ≠ xb → w'.heap[k]? = w.heap[k]?
/-- a step of a grace period -/
def GrE (base g : Nat) (w0 w : World) (G : Nat → Prop) (gr sl : Nat) (r : Bool) (mark at_ : Int) (S' : Cm) (e : Ending) (w' : World) : Prop :=
  e = .returned (.bool r) ∧ HasG base g w0 G S' w' ∧ Blk w' gr 159 #[.pointer (some ⟨sl, 0, none⟩), .int .i64 mark, .int .i64 at_] ∧ ∀ k, G k → k ≠ gr → w'.heap[k]? = w.heap[k]?
theorem sec_fin (H : HasG base g w0 G S w') (hk : ∀ k, G k → w'.heap[k]? = w.heap[k]?) {xb sl slot : Nat} {r : Bool} {p' q' : Int} (hx : G xb) (hxb : base ≤ xb) {w2 : World} (hf : Fr (fun k => k = xb) w' w2) (h2 : Blk w2 xb 161 #[.pointer (some ⟨sl, 0, none⟩), .int .i64 (slot : Int), .int .i64 p', .int .i64 q']) :
    SecE base g w0 w G xb sl slot r p' q' S (.returned (.bool r)) w2 := by
  exact ⟨rfl, H.write hf fun k e => ⟨e ▸ hx, e ▸ hxb⟩, h2, fun k hG hne => (hf.block k (H.lt hG) hne).trans (hk k hG)⟩
set_option maxRecDepth 100000 in
set_option maxHeartbeats 1000000 in
theorem sec_one (h : HasG base g w0 G S w) (sl ep fi n xb slot : Nat) (q : Int) (hs : G sl) (hx : G xb) (hxb : base ≤ xb) (hL : Blk w sl 157 #[.pointer (some ⟨g, 0, none⟩), .int .i64 (ep : Int), .int .i64 (fi : Int), .int .i64 (n : Int)]) (hX : Blk w xb 161 #[.pointer (some ⟨sl, 0, none⟩), .int .i64 (slot : Int), .int .i64 0, .int .i64 q])
    (hb : S.bad ≤ 4611686018427387904) (hn : (S.tr.length + 1) * 40 ≤ 140737488355328) :
    Calls Try.prog 61 #[.pointer (some ⟨xb, 0, none⟩)] w (SecE base g w0 w G xb sl slot false 1 (S.look (ep : Int)).1 (S.load (ep : Int))) := by
  have Q : Hid (HasG base g w0 G S w.drew) := h.drewN 1
  have l0 : w.cell? ⟨sl, 0, none⟩ = some (.pointer (some ⟨g, 0, none⟩)) := hL.cell 0
  have l1 : w.cell? ⟨sl, 1, none⟩ = some (.int .i64 (ep : Int)) := hL.cell 1
  have x0 : w.cell? ⟨xb, 0, none⟩ = some (.pointer (some ⟨sl, 0, none⟩)) := hX.cell 0
  have x2 : w.cell? ⟨xb, 2, none⟩ = some (.int .i64 0) := hX.cell 2
  have HL := Mm.hid hL
  have HX := Mm.hid hX
  have GG := Mm.hid (And.intro hs (And.intro hx hxb))
  obtain ⟨r, hr⟩ : ∃ r, S.look (ep : Int) = r := ⟨_, rfl⟩
  have L := Mm.hid hr
  rw [hr]
  have HB := Mm.hid hb
  have HN := Mm.hid hn
  clear h hL hX hr hs hx hxb hb hn
  obtain ⟨v, e⟩ := r
  go_enter Try.func61, Try.ntmps61
  go_wp2_with fail
  go_region_held3 (fun w' => w'.cell? ⟨xb, 0, none⟩ = some (.pointer (some ⟨sl, 0, none⟩)) ∧ w'.cell? ⟨sl, 0, none⟩ = some (.pointer (some ⟨g, 0, none⟩)) ∧ w'.cell? ⟨sl, 1, none⟩ = some (.int .i64 (ep : Int))) (go_keep)
    (first | (go_at_call 21; refine (Q.out.op fun F m1 m2 => load_any _ g F S (ep : Int) _ m1 m2 HB.out HN.out).mono ?_; rintro e' w2 ⟨rfl, h2, k2⟩; rw [L.out]; have H2 := Mm.hid h2; have K2 : Hid (∀ k, G k → w2.heap[k]? = w.heap[k]?) := fun k hk => k2 k hk; have L2 := Mm.hid (HL.out.keep (K2.out sl GG.out.1)); have X2 := Mm.hid (HX.out.keep (K2.out xb GG.out.2.1)); have y0 : w2.cell? ⟨sl, 0, none⟩ = some (.pointer (some ⟨g, 0, none⟩)) := L2.out.cell 0; have y1 : w2.cell? ⟨sl, 1, none⟩ = some (.int .i64 (ep : Int)) := L2.out.cell 1; have z0 : w2.cell? ⟨xb, 0, none⟩ = some (.pointer (some ⟨sl, 0, none⟩)) := X2.out.cell 0; have z3 : w2.cell? ⟨xb, 3, none⟩ = some (.int .i64 q) := X2.out.cell 3; have z3f : w2.frozen? ⟨xb, 3, none⟩ = false := X2.out.free 3; have NE : sl ≠ xb := blk_ne HL.out HX.out (by decide); have X3 : Hid (Blk (w2.setCell ⟨xb, 3, none⟩ (.int .i64 v)) xb 161 #[.pointer (some ⟨sl, 0, none⟩), .int .i64 (slot : Int), .int .i64 0, .int .i64 v]) := X2.out.set 3 _; have L3 := Mm.hid ((Fr.setCell w2 ⟨xb, 3, none⟩ (.int .i64 v)).blk L2.out NE); have u0 : (w2.setCell ⟨xb, 3, none⟩ (.int .i64 v)).cell? ⟨xb, 0, none⟩ = some (.pointer (some ⟨sl, 0, none⟩)) := X3.out.cell 0; have u1 : (w2.setCell ⟨xb, 3, none⟩ (.int .i64 v)).cell? ⟨sl, 0, none⟩ = some (.pointer (some ⟨g, 0, none⟩)) := L3.out.cell 0; have u2 : (w2.setCell ⟨xb, 3, none⟩ (.int .i64 v)).cell? ⟨sl, 1, none⟩ = some (.int .i64 (ep : Int)) := L3.out.cell 1; clear h2 k2 NE))
  all_goals (
    clear l0 l1 x0 x2 y0 y1 z0 z3 z3f u0 u1 u2 L3
    have f3 := Fr.setCell w2 ⟨xb, 3, none⟩ (.int .i64 v)
    have f4 := f3.trans (Fr.setCell (w2.setCell ⟨xb, 3, none⟩ (.int .i64 v)) ⟨xb, 2, none⟩ (.int .i64 1)) fun _ _ h => h
    have FIN := Mm.hid (sec_fin (r := false) H2.out K2.out GG.out.2.1 GG.out.2.2 f4 (X3.out.set 2 (.int .i64 1)))
    have z2 : (w2.setCell ⟨xb, 3, none⟩ (.int .i64 v)).cell? ⟨xb, 2, none⟩ = some (.int .i64 0) := X3.out.cell 2
    have z2f : (w2.setCell ⟨xb, 3, none⟩ (.int .i64 v)).frozen? ⟨xb, 2, none⟩ = false := X3.out.free 2
    clear f3 f4
    generalize w2.setCell ⟨xb, 3, none⟩ (.int .i64 v) = w3 at *
    go_wp2
    go_ret
    exact FIN.out)
set_option maxRecDepth 100000 in
set_option maxHeartbeats 1000000 in
theorem sec_two (h : HasG base g w0 G S w) (sl ep fi n xb slot : Nat) (q : Int) (hs : G sl) (hx : G xb) (hxb : base ≤ xb) (hL : Blk w sl 157 #[.pointer (some ⟨g, 0, none⟩), .int .i64 (ep : Int), .int .i64 (fi : Int), .int .i64 (n : Int)]) (hX : Blk w xb 161 #[.pointer (some ⟨sl, 0, none⟩), .int .i64 (slot : Int), .int .i64 1, .int .i64 q]) (hfi : fi ≤ 65536) (hk : slot ≤ 65536)
    (hb : S.bad ≤ 4611686018427387904) (hn : (S.tr.length + 1) * 40 ≤ 140737488355328) :
    Calls Try.prog 61 #[.pointer (some ⟨xb, 0, none⟩)] w (SecE base g w0 w G xb sl slot true 2 q (S.store ((fi : Int) + (slot : Int)) q)) := by
  have Q : Hid (HasG base g w0 G S w.drew) := h.drewN 1
  have x0 : w.cell? ⟨xb, 0, none⟩ = some (.pointer (some ⟨sl, 0, none⟩)) := hX.cell 0
  have x1 : w.cell? ⟨xb, 1, none⟩ = some (.int .i64 (slot : Int)) := hX.cell 1
  have x2 : w.cell? ⟨xb, 2, none⟩ = some (.int .i64 1) := hX.cell 2
  have x3 : w.cell? ⟨xb, 3, none⟩ = some (.int .i64 q) := hX.cell 3
  have HL := Mm.hid hL
  have HX := Mm.hid hX
  have GG := Mm.hid (And.intro hs (And.intro hx hxb))
  have HB := Mm.hid hb
  have HN := Mm.hid hn
  clear h hL hX hs hx hxb hb hn
  go_enter Try.func61, Try.ntmps61
  go_wp2_with fail
  go_region_held3 (fun w' => w'.cell? ⟨xb, 0, none⟩ = some (.pointer (some ⟨sl, 0, none⟩)) ∧ w'.cell? ⟨xb, 1, none⟩ = some (.int .i64 (slot : Int)) ∧ w'.cell? ⟨xb, 3, none⟩ = some (.int .i64 q)) (go_keep)
    (first | (go_at_call 96; refine (stell_any (w := w.drew) (by exact Q.out) sl ep fi n slot q GG.out.1 (HL.out.keep rfl) hfi hk HB.out HN.out).mono ?_; rintro e' w2 ⟨rfl, h2, k2⟩; have H2 := Mm.hid h2; have K2 : Hid (∀ k, G k → w2.heap[k]? = w.heap[k]?) := fun k hk => k2 k hk; have X2 := Mm.hid (HX.out.keep (K2.out xb GG.out.2.1)); have z0 : w2.cell? ⟨xb, 0, none⟩ = some (.pointer (some ⟨sl, 0, none⟩)) := X2.out.cell 0; have z1 : w2.cell? ⟨xb, 1, none⟩ = some (.int .i64 (slot : Int)) := X2.out.cell 1; have z3 : w2.cell? ⟨xb, 3, none⟩ = some (.int .i64 q) := X2.out.cell 3; clear h2 k2))
  all_goals (
    clear x0 x1 x2 x3 z0 z1 z3
    have FIN := Mm.hid (sec_fin (r := true) H2.out K2.out GG.out.2.1 GG.out.2.2 (Fr.setCell w2 ⟨xb, 2, none⟩ (.int .i64 2)) (X2.out.set 2 (.int .i64 2)))
    have z2 : w2.cell? ⟨xb, 2, none⟩ = some (.int .i64 1) := X2.out.cell 2
    have z2f : w2.frozen? ⟨xb, 2, none⟩ = false := X2.out.free 2
    go_wp2
    go_ret
    exact FIN.out)
theorem sec_done (h : HasG base g w0 G S w) (sl xb slot : Nat) (q : Int) (hX : Blk w xb 161 #[.pointer (some ⟨sl, 0, none⟩), .int .i64 (slot : Int), .int .i64 2, .int .i64 q]) :
    Calls Try.prog 61 #[.pointer (some ⟨xb, 0, none⟩)] w (SecE base g w0 w G xb sl slot true 2 q S) := by
  have x2 : w.cell? ⟨xb, 2, none⟩ = some (.int .i64 2) := hX.cell 2
  have H := Mm.hid h
  have HX := Mm.hid hX
  clear h hX
  go_enter Try.func61, Try.ntmps61
  go_wp2
  go_ret
  exact ⟨rfl, H.out, HX.out, fun _ _ _ => rfl⟩
theorem mark_any (sl xb slot : Nat) (p q t : Int) (ht : (if p < 2 then 0 else q) = t) (hX : Blk w xb 161 #[.pointer (some ⟨sl, 0, none⟩), .int .i64 (slot : Int), .int .i64 p, .int .i64 q]) :
    Calls Try.prog 93 #[.pointer (some ⟨xb, 0, none⟩)] w fun e w' => e = .returned (.int .i64 t) ∧ w = w' := by
  have x2 : w.cell? ⟨xb, 2, none⟩ = some (.int .i64 p) := hX.cell 2
  have x3 : w.cell? ⟨xb, 3, none⟩ = some (.int .i64 q) := hX.cell 3
  clear hX
  by_cases hp : p < 2
  · rw [if_pos hp] at ht
    subst ht
    go_enter Try.func93, Try.ntmps93
    go_wp2
    go_ret
    exact ⟨rfl, rfl⟩
  · rw [if_neg hp] at ht
    subst ht
    go_enter Try.func93, Try.ntmps93
    go_wp2
    go_ret
    exact ⟨rfl, rfl⟩
end
end Go.Proofs.Ytkbobgblohohcaa

/- Walks: one step on a meter and on the document's: they answer alike, and stay alike. -/
import Derived.Test.YtbhchnfdhdjfnaaRef
import Derived.Test.YtbhchnfdhdjfnaaSum
import Derived.Deep.RegionHeld3
namespace Go.Proofs.Ytbhchnfdhdjfnaa
open Go.RowKit Go.Mm
theorem info75 : (Try.prog.info? 75).map (fun i => (i.zero, i.size, i.bytes)) = some (some (.agg #[.int .i64 0, .int .i64 0]), 2, 16) := by kernel_rfl
theorem rnote_bad (g : Nat) (now n : Int) (w : World) (hc : now < 0 ∨ n < 0) :
    Calls Try.prog 35 #[.pointer (some ⟨g, 0, none⟩), .int .i64 now, .int .i64 n] w fun e w' => e = .returned (.int .i64 3) ∧ w = w' := by
  by_cases h : now < 0
  · clear hc
    go_enter Try.func35, Try.ntmps35
    go_wp2
    go_ret
    exact ⟨rfl, rfl⟩
  · have h2 : n < 0 := by omega
    clear hc
    go_enter Try.func35, Try.ntmps35
    go_wp2
    go_ret
    exact ⟨rfl, rfl⟩
theorem rnote_early (B g : Nat) (half : Int) (l : List (Int × Int)) (v : Value) (now n : Int) (w : World) (h : RM w B g half l v) (hn : l.length ≤ 9223372036854775806) (h0 : 0 ≤ now) (h1 : 0 ≤ n) (h2 : now < (ofNotes half l).last) :
    Calls Try.prog 35 #[.pointer (some ⟨g, 0, none⟩), .int .i64 now, .int .i64 n] w fun e w' => e = .returned (.int .i64 1) ∧ ∃ k, w' = w.drewN k := by
  have H := Mm.hid h
  clear h
  go_enter Try.func35, Try.ntmps35
  go_wp2_with fail
  refine (last_any B g half l v _ H.out (by omega)).mono ?_
  rintro e w1 ⟨rfl, n, rfl⟩
  go_wp2_with fail
  go_ret
  exact ⟨rfl, _, rfl⟩
theorem RM.fr {S : Nat → Prop} {w w' : World} {B g : Nat} {half : Int} {l : List (Int × Int)} {v : Value} (h : RM w B g half l v) (hf : Fr S w w') (h1 : ¬ S g) (h2 : ∀ b, v.ownBlock = some b → ¬ S b) : RM w' B g half l v :=
  ⟨hf.blk h.1 h1, hf.own h.2 h2⟩
def RNoted (B g : Nat) (half : Int) (l : List (Int × Int)) (v : Value) (now n : Int) (w : World) (e : Ending) (w' : World) : Prop :=
  e = .returned (.int .i64 0) ∧ ∃ v', RM w' B g half (l ++ [(now, n)]) v' ∧ (v'.ownBlock = v.ownBlock ∨ ∃ b, v'.ownBlock = some b ∧ w.heap.size ≤ b) ∧ Fr (fun k => k = g ∨ v.ownBlock = some k) w w'
set_option maxHeartbeats 1000000 in
theorem rnote_good (B g : Nat) (half : Int) (l : List (Int × Int)) (v : Value) (now n : Int) (w : World) (h : RM w B g half l v) (hB : B ≤ w.heap.size) (hn : (l.length + 1) * 16 ≤ 140737488355328) (h0 : 0 ≤ now) (h1 : 0 ≤ n) (h2 : (ofNotes half l).last ≤ now) :
    Calls Try.prog 35 #[.pointer (some ⟨g, 0, none⟩), .int .i64 now, .int .i64 n] w (RNoted B g half l v now n w) := by
  have H := Mm.hid h
  clear h
  go_enter Try.func35, Try.ntmps35
  go_wp2_with fail
  refine (last_any B g half l v _ H.out (by omega)).mono ?_
  rintro e w1 ⟨rfl, k, rfl⟩
  have c1 : w.cell? ⟨g, 1, none⟩ = some v := H.out.1.cell 1
  have c2 := H.out.1.lt
  go_wp2_with (at_builtin; go_must (refine wp_app1 B rfl _ _ 70 75 (.agg #[.int .i64 0, .int .i64 0]) 2 16 #[.int .i64 now, .int .i64 n] rfl Try.underlying70 info75 rfl (by decide) (by decide) v l.length _ rfl rfl rfl (by simp; exact ⟨rfl, rfl⟩) (by exact H.out.2) (Below.refl _ _) (by exact hB) hn ?_))
  intro v1 w1 k1 k2 k3 k4
  have hne := own_ne H.out.2 H.out.1 (by decide)
  have hb1 : Blk w1 g 72 #[.int .i64 half, v] := H.out.1.keep (k3.block g c2 (fun e => hne e.symm))
  have d1 : w1.cell? ⟨g, 1, none⟩ = some v := hb1.cell 1
  have d2 : w1.frozen? ⟨g, 1, none⟩ = false := hb1.free 1
  have K1 := Mm.hid k1
  have K3 := Mm.hid k3
  have K4 := Mm.hid k4
  have HB1 := Mm.hid hb1
  obtain ⟨A1, c1', rfl⟩ : ∃ A c, v1 = .slice A (l.length + 1) c := by
    rcases k1.2 with ⟨rfl, h0⟩ | ⟨b, cap, cur, rfl, _⟩
    · omega
    · exact ⟨_, cap, rfl⟩
  clear k1 k2 k3 k4 hb1 hne c1
  go_wp2_with fail
  go_ret
  refine ⟨rfl, _, ⟨HB1.out.set 1 _, ?_⟩, ?_, ?_⟩
  · have := ownsRow_setCell_other (a := ⟨g, 1, none⟩) K1.out (own_ne K1.out HB1.out (by decide)) (.slice A1 (l.length + 1) c1')
    rw [List.length_append, List.flatMap_append]
    exact this
  · exact K4.out
  · exact ((Fr.drewN (fun k => k = g ∨ v.ownBlock = some k) w k).trans (Fr.grown K3.out) (fun _ _ h => .inr h)).trans (Fr.setCell w1 ⟨g, 1, none⟩ _) (fun _ _ h => .inl h)
/-- what a note answers -/
def Meter.code (m : Meter) (now n : Int) : Int := if now < 0 ∨ n < 0 then 3 else if now < m.last then 1 else 0
/-- the notes behind it -/
def noteL (half : Int) (l : List (Int × Int)) (now n : Int) : List (Int × Int) := if (ofNotes half l).code now n = 0 then l ++ [(now, n)] else l
theorem noteL_bad {half : Int} {l : List (Int × Int)} {now n : Int} (h : now < 0 ∨ n < 0) : (ofNotes half l).code now n = 3 ∧ noteL half l now n = l := by
  have : (ofNotes half l).code now n = 3 := by unfold Meter.code; rw [if_pos h]
  exact ⟨this, by unfold noteL; rw [this, if_neg (by decide)]⟩
theorem noteL_early {half : Int} {l : List (Int × Int)} {now n : Int} (h : 0 ≤ now) (h' : 0 ≤ n) (h2 : now < (ofNotes half l).last) : (ofNotes half l).code now n = 1 ∧ noteL half l now n = l := by
  have : (ofNotes half l).code now n = 1 := by unfold Meter.code; rw [if_neg (by omega), if_pos h2]
  exact ⟨this, by unfold noteL; rw [this, if_neg (by decide)]⟩
theorem noteL_good {half : Int} {l : List (Int × Int)} {now n : Int} (h : 0 ≤ now) (h' : 0 ≤ n) (h2 : (ofNotes half l).last ≤ now) : (ofNotes half l).code now n = 0 ∧ noteL half l now n = l ++ [(now, n)] := by
  have : (ofNotes half l).code now n = 0 := by unfold Meter.code; rw [if_neg (by omega), if_neg (by omega)]
  exact ⟨this, by unfold noteL; rw [this, if_pos rfl]⟩
def NoteEnds (g : Nat) (m : Meter) (c : Int) (w : World) (e : Ending) (w' : World) : Prop := e = .returned (.int .i64 c) ∧ MB w' g m ∧ Fr (· = g) w w'
theorem note_any (half : Int) (l : List (Int × Int)) (g : Nat) (now n : Int) (w : World) (hb : MB w g (ofNotes half l)) (hf : Fine half l) (hm : now ≤ 9223372036854775807) :
    Calls Try.prog 29 #[.pointer (some ⟨g, 0, none⟩), .int .i64 now, .int .i64 n] w (NoteEnds g (ofNotes half (noteL half l now n)) ((ofNotes half l).code now n) w) := by
  have hok := hf l.length (Nat.le_refl _)
  rw [List.take_length] at hok
  have hok := hok.1
  by_cases hn : n < 0
  · obtain ⟨c, d⟩ := noteL_bad (half := half) (l := l) (now := now) (n := n) (.inr hn)
    refine (note_neg g now n w hn).mono ?_
    rintro e w' ⟨rfl, rfl⟩
    rw [c, d]
    exact ⟨rfl, hb, Fr.refl _ _⟩
  · by_cases hneg : now < 0
    · obtain ⟨c, d⟩ := noteL_bad (half := half) (l := l) (now := now) (n := n) (.inl hneg)
      have ha := Meter.at_neg (m := ofNotes half l) hneg
      refine (note_bad (ofNotes half l) g now n w hb hok hm (by omega) (by rw [ha]; decide)).mono ?_
      rintro e w' ⟨rfl, k, rfl⟩
      rw [c, d, ha]
      exact ⟨rfl, hb, Fr.drewN _ _ _⟩
    · by_cases hl : now < (ofNotes half l).last
      · obtain ⟨c, d⟩ := noteL_early (half := half) (l := l) (now := now) (n := n) (by omega) (by omega) hl
        have ha := Meter.at_early (m := ofNotes half l) (by omega) hl
        refine (note_bad (ofNotes half l) g now n w hb hok hm (by omega) (by rw [ha]; decide)).mono ?_
        rintro e w' ⟨rfl, k, rfl⟩
        rw [c, d, ha]
        exact ⟨rfl, hb, Fr.drewN _ _ _⟩
      · obtain ⟨c, d⟩ := noteL_good (half := half) (l := l) (now := now) (n := n) (by omega) (by omega) (by omega)
        refine (note_good (ofNotes half l) g now n w hb hok hm (by omega) (by omega) (by omega)).mono ?_
        rintro e w' ⟨rfl, h1, h2⟩
        rw [c, d, ofNotes_snoc]
        exact ⟨rfl, h1, h2⟩
def RNoteEnds (B g : Nat) (half : Int) (l : List (Int × Int)) (v : Value) (l' : List (Int × Int)) (c : Int) (w : World) (e : Ending) (w' : World) : Prop :=
  e = .returned (.int .i64 c) ∧ ∃ v', RM w' B g half l' v' ∧ (v'.ownBlock = v.ownBlock ∨ ∃ b, v'.ownBlock = some b ∧ w.heap.size ≤ b) ∧ Fr (fun k => k = g ∨ v.ownBlock = some k) w w' ∧ l'.length ≤ l.length + 1
theorem rnote_any (B g : Nat) (half : Int) (l : List (Int × Int)) (v : Value) (now n : Int) (w : World) (h : RM w B g half l v) (hB : B ≤ w.heap.size) (hn : (l.length + 1) * 16 ≤ 140737488355328) :
    Calls Try.prog 35 #[.pointer (some ⟨g, 0, none⟩), .int .i64 now, .int .i64 n] w (RNoteEnds B g half l v (noteL half l now n) ((ofNotes half l).code now n) w) := by
  by_cases hb : now < 0 ∨ n < 0
  · obtain ⟨c, d⟩ := noteL_bad (half := half) (l := l) hb
    refine (rnote_bad g now n w hb).mono ?_
    rintro e w' ⟨rfl, rfl⟩
    rw [c, d]
    exact ⟨rfl, v, h, .inl rfl, Fr.refl _ _, by omega⟩
  · by_cases hl : now < (ofNotes half l).last
    · obtain ⟨c, d⟩ := noteL_early (half := half) (l := l) (now := now) (n := n) (by omega) (by omega) hl
      refine (rnote_early B g half l v now n w h (by omega) (by omega) (by omega) hl).mono ?_
      rintro e w' ⟨rfl, k, rfl⟩
      rw [c, d]
      exact ⟨rfl, v, h, .inl rfl, Fr.drewN _ _ _, by omega⟩
    · obtain ⟨c, d⟩ := noteL_good (half := half) (l := l) (now := now) (n := n) (by omega) (by omega) (by omega)
      refine (rnote_good B g half l v now n w h hB hn (by omega) (by omega) (by omega)).mono ?_
      rintro e w' ⟨rfl, v', h1, h2, h3⟩
      rw [c, d]
      exact ⟨rfl, v', h1, h2, h3, by simp⟩
theorem Fine.note {half : Int} {l : List (Int × Int)} {now n : Int} (h : Fine half l) (h1 : now ≤ 9223372036854775807) (h2 : n ≤ 9223372036854775807) : Fine half (noteL half l now n) := by
  unfold noteL
  split
  · rename_i hc
    unfold Meter.code at hc
    split at hc
    · exact absurd hc (by decide)
    · split at hc
      · exact absurd hc (by decide)
      · exact h.snoc (by show _ ≤ now; omega) h1 (by show 0 ≤ n; omega) h2
  · exact h
def StepOk (B g g2 : Nat) (half : Int) (l : List (Int × Int)) (v : Value) (w : World) (e : Ending) (w' : World) : Prop :=
  e = .returned (.bool true) ∧ ∃ l' v', l'.length ≤ l.length + 1 ∧ Fine half l' ∧ MB w' g (ofNotes half l') ∧ RM w' B g2 half l' v' ∧ (v'.ownBlock = v.ownBlock ∨ ∃ b, v'.ownBlock = some b ∧ w.heap.size ≤ b) ∧ Fr (fun k => k = g ∨ k = g2 ∨ v.ownBlock = some k) w w'
theorem at_pos {m : Meter} (h : m.ok) (now : Int) : Pos (m.at_ now).1 := by
  unfold Meter.at_
  split
  · exact Nat.zero_le _
  · split
    · exact Nat.zero_le _
    · exact hN_pos h.2.2.2.2 _
theorem code_self (c : Int) : (c == c) = true := by simp
set_option maxHeartbeats 1000000 in
theorem step_any (B g g2 : Nat) (half : Int) (l : List (Int × Int)) (v : Value) (s : Step) (w : World) (hM : MB w g (ofNotes half l)) (hR : RM w B g2 half l v) (hf : Fine half l) (hB : B ≤ g) (hs : gS s) (hn : (l.length + 1) * 16 ≤ 140737488355328) :
    Calls Try.prog 32 #[.pointer (some ⟨g, 0, none⟩), .pointer (some ⟨g2, 0, none⟩), .agg #[.int .i64 s.do_, .int .i64 s.now, .int .i64 s.n]] w (StepOk B g g2 half l v w) := by
  obtain ⟨sd, sn, sk⟩ := s
  obtain ⟨g0, g1, g2'⟩ := hs
  have b0 := wf64 g0
  have b1 := wf64 g1
  have b2 := wf64 g2'
  simp only at b0 b1 b2
  clear g0 g1 g2'
  have hgg : g ≠ g2 := blk_ne hM hR.1 (by decide)
  have hgv : v.ownBlock ≠ some g := own_ne hR.2 hM (by decide)
  have hg2v := own_ne hR.2 hR.1 (by decide)
  have M := Mm.hid hM
  have R := Mm.hid hR
  have F := Mm.hid hf
  have HH := Mm.hid (And.intro hgg (And.intro hgv hg2v))
  have mlt := hM.lt
  have rlt := hR.1.lt
  clear hM hR hf hgg hgv hg2v
  have M1 := Mm.hid (M.out.keep (Below.heap_alloc w (.cells #[.int .i64 sd, .int .i64 sn, .int .i64 sk] 60) g mlt))
  have R1 := Mm.hid (R.out.below ((Below.refl _ w).alloc (Nat.le_refl _) (.cells #[.int .i64 sd, .int .i64 sn, .int .i64 sk] 60)))
  have X1 := Mm.hid (Blk.new w #[.int .i64 sd, .int .i64 sn, .int .i64 sk] 60)
  have HX : Hid (¬ (w.heap.size = g2 ∨ v.ownBlock = some w.heap.size)) := by
    rintro (h | h)
    · omega
    · have := (R.out.2.lt _ h).2; omega
  by_cases hd1 : sd = 1
  · subst hd1
    go_enter Try.func32, Try.ntmps32
    go_wp2_with fail
    go_region_held3 (fun w' => w'.cell? ⟨w.heap.size, 1, none⟩ = some (.int .i64 sn) ∧ w'.cell? ⟨w.heap.size, 2, none⟩ = some (.int .i64 sk)) (go_keep)
      (first | (go_at_call 29; refine (note_any half l g _ _ _ (by exact M1.out) F.out (by omega)).mono ?_; rintro e w2 ⟨rfl, hb, hfr⟩; have y1 := hfr.cell (X1.out.cell 1) (by show ¬ w.heap.size = g; omega); have y2 := hfr.cell (X1.out.cell 2) (by show ¬ w.heap.size = g; omega); have MB2 := Mm.hid hb; have FR2 := Mm.hid hfr; clear hb hfr) | (go_at_call 35; refine (rnote_any B g2 half l v _ _ _ (RM.fr (by exact R1.out) FR2.out (fun h => HH.out.1 h.symm) (fun b h1 h2 => HH.out.2.1 (h2 ▸ h1))) (by have := FR2.out.size; simp at this; omega) hn).mono ?_; rintro e w3 ⟨rfl, v', hr, ho, hfr, hl⟩; have z1 := hfr.cell y1 (by exact HX.out); have z2 := hfr.cell y2 (by exact HX.out); have RR := Mm.hid hr; have RO := Mm.hid ho; have FR3 := Mm.hid hfr; have LL := Mm.hid hl; clear hr ho hfr hl))
    go_wp2
    go_ret
    have fa : Fr (fun k => k = g ∨ k = g2 ∨ v.ownBlock = some k) w w2 := ((Fr.alloc _ w (.cells #[.int .i64 1, .int .i64 sn, .int .i64 sk] 60)).trans (Fr.drew (fun _ => False) _) (fun _ _ h => h.elim)).trans (T := (· = g)) FR2.out (fun _ _ h => .inl h)
    have hg : ¬ (g = g2 ∨ v.ownBlock = some g) := fun h => h.elim HH.out.1 HH.out.2.1
    refine ⟨by simp, noteL half l sn sk, v', LL.out, F.out.note (by omega) (by omega), FR3.out.blk MB2.out hg, RR.out, ?_, fa.trans FR3.out (fun k _ h => .inr h)⟩
    rcases RO.out with h | ⟨b, h1, h2⟩
    · exact .inl h
    · exact .inr ⟨b, h1, Nat.le_trans fa.size h2⟩
  · by_cases hd2 : sd = 2
    · subst hd2
      go_enter Try.func32, Try.ntmps32
      go_wp2_with fail
      have hok := F.out l.length (Nat.le_refl _)
      rw [List.take_length] at hok
      have OK := Mm.hid hok.1
      clear hok
      refine (rate_any (ofNotes half l) g _ _ (by exact M1.out) OK.out (by omega)).mono ?_
      rintro e w1 ⟨n1, rfl, rfl⟩
      go_wp2_with fail
      refine (rrate_any B g2 half l v _ _ (by exact R1.out) F.out (by omega) (by omega)).mono ?_
      rintro e w2 ⟨rfl, hb⟩
      have hp : (FloatKind.f64.format.order ((ofNotes half l).at_ sn).1 ((ofNotes half l).at_ sn).1 == some .eq) = true := pos_self (at_pos OK.out sn)
      have HB := Mm.hid hb
      clear hb
      go_wp2_with fail
      go_ret
      refine ⟨by simp, l, v, by omega, F.out, ?_, ?_, .inl rfl, ?_⟩
      · exact MB.keep M1.out (HB.out.block g M1.out.lt)
      · exact RM.below (by exact R1.out) HB.out
      · exact ((Fr.alloc _ w _).trans (Fr.drewN (fun _ => False) _ n1) (fun _ _ h => h.elim)).trans (Fr.of_below HB.out) (fun _ _ h => h.elim)
    · have t1 : (sd == 1) = false := beq_eq_false_iff_ne.2 hd1
      have t2 : (sd == 2) = false := beq_eq_false_iff_ne.2 hd2
      clear hd1 hd2
      go_enter Try.func32, Try.ntmps32
      go_wp2
      go_ret
      exact ⟨rfl, l, v, by omega, F.out, M1.out, R1.out, .inl rfl, Fr.alloc _ w _⟩

theorem rnew_bad (half : Int) (w : World) (h : half < 1) :
    Calls Try.prog 31 #[.int .i64 half] w fun e w' => e = .returned (.tuple #[.pointer none, .int .i64 3]) ∧ w = w' := by
  go_enter Try.func31, Try.ntmps31
  go_wp2
  go_ret2
  exact ⟨rfl, rfl⟩
theorem rnew_good (B : Nat) (half : Int) (w : World) (h : 1 ≤ half) :
    Calls Try.prog 31 #[.int .i64 half] w fun e w' => e = .returned (.tuple #[.pointer (some ⟨w.heap.size, 0, none⟩), .int .i64 0]) ∧ RM w' B w.heap.size half [] (.slice none 0 0) ∧ Below w.heap.size w w' ∧ w.heap.size < w'.heap.size := by
  go_enter Try.func31, Try.ntmps31
  go_wp2
  go_ret2
  exact ⟨rfl, ⟨Blk.new w _ 72, World.ownsRow_nil _ _ _ _⟩, (Below.refl _ w).alloc (Nat.le_refl _) _, by simp⟩
/-- a meter and the document's, side by side -/
def Pair (B g g2 : Nat) (half : Int) (k : Nat) (w : World) (v : Value) : Prop :=
  ∃ l, l.length ≤ k ∧ Fine half l ∧ MB w g (ofNotes half l) ∧ RM w B g2 half l v
theorem Pair.fr {S : Nat → Prop} {B g g2 : Nat} {half : Int} {k : Nat} {w w' : World} {v : Value} (h : Pair B g g2 half k w v) (hf : Fr S w w') (h1 : ¬ S g) (h2 : ¬ S g2) (h3 : ∀ b, v.ownBlock = some b → ¬ S b) : Pair B g g2 half k w' v := by
  obtain ⟨l, a, b, c, d⟩ := h
  exact ⟨l, a, b, hf.blk c h1, d.fr hf h2 h3⟩
def PairStep (B g g2 : Nat) (half : Int) (k : Nat) (v : Value) (w : World) (e : Ending) (w' : World) : Prop :=
  e = .returned (.bool true) ∧ ∃ v', Pair B g g2 half (k + 1) w' v' ∧ (v'.ownBlock = v.ownBlock ∨ ∃ b, v'.ownBlock = some b ∧ w.heap.size ≤ b) ∧ Fr (fun k => k = g ∨ k = g2 ∨ v.ownBlock = some k) w w'
theorem pair_step (B g g2 : Nat) (half : Int) (k : Nat) (v : Value) (s : Step) (w : World) (h : Pair B g g2 half k w v) (hB : B ≤ g) (hs : gS s) (hk : (k + 1) * 16 ≤ 140737488355328) :
    Calls Try.prog 32 #[.pointer (some ⟨g, 0, none⟩), .pointer (some ⟨g2, 0, none⟩), .agg #[.int .i64 s.do_, .int .i64 s.now, .int .i64 s.n]] w (PairStep B g g2 half k v w) := by
  obtain ⟨l, a, b, c, d⟩ := h
  refine (step_any B g g2 half l v s w c d b hB hs (by omega)).mono ?_
  rintro e w' ⟨he, l', v', h1, h2, h3, h4, h5, h6⟩
  exact ⟨he, v', ⟨l', by omega, h2, h3, h4⟩, h5, h6⟩
theorem Pair.row_lt {B g g2 : Nat} {half : Int} {k : Nat} {w : World} {v : Value} (h : Pair B g g2 half k w v) : ∀ b, v.ownBlock = some b → B ≤ b ∧ b < w.heap.size := by
  obtain ⟨l, _, _, _, d⟩ := h
  exact d.2.lt
theorem Pair.lts {B g g2 : Nat} {half : Int} {k : Nat} {w : World} {v : Value} (h : Pair B g g2 half k w v) : g < w.heap.size ∧ g2 < w.heap.size ∧ v.ownBlock ≠ some g ∧ v.ownBlock ≠ some g2 ∧ g ≠ g2 := by
  obtain ⟨l, _, _, c, d⟩ := h
  exact ⟨c.lt, d.1.lt, own_ne d.2 c (by decide), own_ne d.2 d.1 (by decide), blk_ne c d.1 (by decide)⟩
/-- two such pairs, of nothing in common -/
def Both (B g1 g2 g3 g4 : Nat) (half : Int) (k : Nat) (w : World) (v u : Value) : Prop :=
  Pair B g1 g2 half k w v ∧ Pair B g3 g4 half k w u ∧ (∀ b, v.ownBlock = some b → u.ownBlock ≠ some b)
theorem one_ne {B g1 g2 g3 g4 : Nat} {half : Int} {k k' : Nat} {w : World} {v u : Value} (h : Pair B g1 g2 half k w v) (h' : Pair B g3 g4 half k' w u) : v.ownBlock ≠ some g3 ∧ v.ownBlock ≠ some g4 ∧ u.ownBlock ≠ some g1 ∧ u.ownBlock ≠ some g2 ∧ g1 ≠ g4 ∧ g2 ≠ g3 := by
  obtain ⟨l, _, _, c, d⟩ := h
  obtain ⟨l', _, _, c', d'⟩ := h'
  exact ⟨own_ne d.2 c' (by decide), own_ne d.2 d'.1 (by decide), own_ne d'.2 c (by decide), own_ne d'.2 d.1 (by decide), blk_ne c d'.1 (by decide), blk_ne d.1 c' (by decide)⟩
/-- a step on the first -/
theorem both_one {B g1 g2 g3 g4 : Nat} {half : Int} {k k' : Nat} {w w' : World} {v u v' : Value} (h13 : g1 ≠ g3) (h24 : g2 ≠ g4) (hu : Pair B g3 g4 half k' w u) (hv : Pair B g1 g2 half k w v) (ha : ∀ b, v.ownBlock = some b → u.ownBlock ≠ some b)
    (ho : v'.ownBlock = v.ownBlock ∨ ∃ b, v'.ownBlock = some b ∧ w.heap.size ≤ b) (hf : Fr (fun k => k = g1 ∨ k = g2 ∨ v.ownBlock = some k) w w') :
    Pair B g3 g4 half k' w' u ∧ (∀ b, v'.ownBlock = some b → u.ownBlock ≠ some b) := by
  obtain ⟨n1, n2, n3, n4, n5, n6⟩ := one_ne hv hu
  refine ⟨hu.fr hf (fun h => h.elim (fun h => h13 h.symm) fun h => h.elim (fun h => n6 h.symm) n1) (fun h => h.elim (fun h => n5 h.symm) fun h => h.elim (fun h => h24 h.symm) n2) (fun b hb h => h.elim (fun h => n3 (h ▸ hb)) fun h => h.elim (fun h => n4 (h ▸ hb)) fun h => ha b h hb), fun b h1 h2 => ?_⟩
  rcases ho with h | ⟨c, h, hc⟩
  · exact ha b (h ▸ h1) h2
  · rw [h] at h1
    cases h1
    have := (hu.row_lt _ h2).2
    omega
end Go.Proofs.Ytbhchnfdhdjfnaa

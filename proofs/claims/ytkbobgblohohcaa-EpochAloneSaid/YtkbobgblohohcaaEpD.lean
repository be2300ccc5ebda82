/- Walk: a small memory: a section, a grace period. -/
import Derived.Test.YtkbobgblohohcaaEpC
namespace Go.Proofs.Ytkbobgblohohcaa
open Go.RowKit Go.Mm Go.Cells
theorem sp_store {ws : List Int} {T i : Nat} {S : Cm} {x : Int} (y : Int) (hs : Sp ws T 0 S) (h : ws[i]? = some x) (hp : x ≠ poison) : S.look (i : Int) = (x, 0) ∧ Sp (ws.set i y) (T + 1) 0 (S.store (i : Int) y) := by
  obtain ⟨rfl, rfl, hb⟩ := hs
  obtain ⟨a1, a2, a3⟩ := store_ws (y := y) h hp
  exact ⟨(look_good h hp).1, a1, a3, a2.trans hb⟩
theorem sp_load {ws : List Int} {T i : Nat} {S : Cm} {x : Int} (hs : Sp ws T 0 S) (h : ws[i]? = some x) (hp : x ≠ poison) : S.look (i : Int) = (x, 0) ∧ Sp ws (T + 1) 0 (S.load (i : Int)) := by
  obtain ⟨rfl, rfl, hb⟩ := hs
  obtain ⟨a1, a2⟩ := look_good h hp
  exact ⟨a1, rfl, by simp [Cm.load], a2.trans hb⟩
theorem sp_add {ws : List Int} {T i : Nat} {S : Cm} {x : Int} (y : Int) (hs : Sp ws T 0 S) (h : ws[i]? = some x) (hp : x ≠ poison) : S.look (i : Int) = (x, 0) ∧ Sp (ws.set i (wrap64 (x + y))) (T + 1) 0 (S.add (i : Int) y) := by
  obtain ⟨rfl, rfl, hb⟩ := hs
  obtain ⟨a1, a2, a3⟩ := add_ws (y := y) h hp
  exact ⟨(look_good h hp).1, a1, a3, a2.trans hb⟩
theorem Sp.room {ws : List Int} {T : Nat} {S : Cm} (h : Sp ws T 0 S) (hT : T ≤ 1000000) : S.bad ≤ 4611686018427387904 ∧ (S.tr.length + 1) * 40 ≤ 140737488355328 := by
  obtain ⟨_, h2, h3⟩ := h
  rw [h2, h3]
  exact ⟨by decide, by omega⟩
theorem new_ten (w : World) : Calls Try.prog 19 #[.int .i64 10] w (NewEnds 10 w) := new_good 10 w (by decide) (by decide)
section
variable {base g : Nat} {w0 w w' : World} {G : Nat → Prop} {S S' : Cm}
theorem HasG.more18 (h : HasG base g w0 G S w) {T : Nat → Prop} {w' : World} (hf : Fr T w w') (hT : ∀ k, T k → G k ∧ base ≤ k) : HasG base g w0 (fun k => G k ∨ (w.heap.size ≤ k ∧ k < w'.heap.size)) S w' := by
  obtain ⟨F, h1, h2, h3⟩ := h.out
  have hle : base ≤ w.heap.size := by have := h1.lt g h1.fg; omega
  refine ⟨F, h1.fr hf fun k hk ht => (h3 k (hT k ht).1).2 hk, h2.trans (hf.below (fun k hk => (hT k hk).2) hle), fun k hk => ?_⟩
  rcases hk with hk | hk
  · exact ⟨Nat.lt_of_lt_of_le (h3 k hk).1 hf.size, (h3 k hk).2⟩
  · exact ⟨hk.2, fun hF => by have := (h1.lt k hF).2; omega⟩
theorem HasG.sub18 {G' : Nat → Prop} (h : HasG base g w0 G' S w) (hs : ∀ k, G k → G' k) : HasG base g w0 G S w := by
  obtain ⟨F, h1, h2, h3⟩ := h.out
  exact ⟨F, h1, h2, fun k hk => h3 k (hs k hk)⟩
end
set_option maxRecDepth 100000 in
set_option maxHeartbeats 4000000 in
theorem awake_any (w : World) : Calls Try.prog 55 #[] w fun e w' => e = .returned (.bool true) ∧ Below w.heap.size w w' := by
  have P0 : Sp (List.replicate 10 0) 0 0 (Cm.new 10) := ⟨rfl, rfl, rfl⟩
  have A1 := sp_store 5 P0 (i := 1) rfl (by decide)
  have A2 := sp_load A1.2 (i := 1) rfl (by decide)
  have A3 := sp_store 5 A2.2 (i := 5) rfl (by decide)
  have A4 := sp_add 1 A3.2 (i := 1) rfl (by decide)
  have A5 := sp_load A4.2 (i := 4) rfl (by decide)
  have A6 := sp_load A5.2 (i := 5) rfl (by decide)
  have A7 := sp_store 0 A6.2 (i := 5) rfl (by decide)
  have A8 := sp_load A7.2 (i := 5) rfl (by decide)
  have A9 := sp_load A8.2 (i := 6) rfl (by decide)
  obtain ⟨S1, e1⟩ : ∃ S1, (Cm.new 10).store ((1 : Nat) : Int) 5 = S1 := ⟨_, rfl⟩
  rw [e1] at A1 A2 A3 A4 A5 A6 A7 A8 A9
  obtain ⟨S2, e2⟩ : ∃ S2, S1.load ((1 : Nat) : Int) = S2 := ⟨_, rfl⟩
  rw [e2] at A2 A3 A4 A5 A6 A7 A8 A9
  obtain ⟨S3, e3⟩ : ∃ S3, S2.store ((5 : Nat) : Int) 5 = S3 := ⟨_, rfl⟩
  rw [e3] at A3 A4 A5 A6 A7 A8 A9
  obtain ⟨S4, e4⟩ : ∃ S4, S3.add ((1 : Nat) : Int) 1 = S4 := ⟨_, rfl⟩
  rw [e4] at A4 A5 A6 A7 A8 A9
  obtain ⟨S5, e5⟩ : ∃ S5, S4.load ((4 : Nat) : Int) = S5 := ⟨_, rfl⟩
  rw [e5] at A5 A6 A7 A8 A9
  obtain ⟨S6, e6⟩ : ∃ S6, S5.load ((5 : Nat) : Int) = S6 := ⟨_, rfl⟩
  rw [e6] at A6 A7 A8 A9
  obtain ⟨S7, e7⟩ : ∃ S7, S6.store ((5 : Nat) : Int) 0 = S7 := ⟨_, rfl⟩
  rw [e7] at A7 A8 A9
  obtain ⟨S8, e8⟩ : ∃ S8, S7.load ((5 : Nat) : Int) = S8 := ⟨_, rfl⟩
  rw [e8] at A8 A9
  obtain ⟨S9, e9⟩ : ∃ S9, S8.load ((6 : Nat) : Int) = S9 := ⟨_, rfl⟩
  rw [e9] at A9
  have B0 := Mm.hid P0
  have B1 := Mm.hid A1
  have B2 := Mm.hid A2
  have B3 := Mm.hid A3
  have B4 := Mm.hid A4
  have B5 := Mm.hid A5
  have B6 := Mm.hid A6
  have B7 := Mm.hid A7
  have B8 := Mm.hid A8
  have B9 := Mm.hid A9
  have EE := Mm.hid (And.intro e1 (And.intro e2 (And.intro e3 (And.intro e4 (And.intro e5 (And.intro e6 (And.intro e7 (And.intro e8 e9))))))))
  have SC : Hid (slotC 10 1 4 3 = 0) := by show _ = _; decide
  clear A1 A2 A3 A4 A5 A6 A7 A8 A9 P0 e1 e2 e3 e4 e5 e6 e7 e8 e9
  go_enter Try.func55, Try.ntmps55
  go_wp2_with fail
  refine (new_ten _).mono ?_
  rintro e w1 ⟨g, rfl, N1⟩
  have H1 : Hid (HasG w.heap.size g w (fun _ => False) (Cm.new 10) w1) := ⟨_, N1.out.2.1, N1.out.2.2, fun _ h => h.elim⟩
  clear N1
  go_wp2_with fail
  refine (H1.out.op fun F m1 m2 => store_any _ g F (Cm.new 10) 1 _ 5 m1 m2 (B0.out.room (by decide)).1 (B0.out.room (by decide)).2).mono ?_
  rintro e w2 ⟨rfl, h2, -⟩
  have H2 : Hid (HasG w.heap.size g w (fun _ => False) S1 w2) := by show HasG _ _ _ _ _ _; rw [← EE.out.1]; exact h2
  obtain ⟨F2, f2, _⟩ := h2.out
  have M2 : Hid (MemB w.heap.size F2 w2 g S1) := by show MemB _ _ _ _ _; rw [← EE.out.1]; exact f2
  clear h2 f2 H1
  go_wp2_with fail
  refine (slots_any F2 10 1 4 3 M2.out (by rw [B1.out.2.1]; rfl) (by decide)).mono ?_
  rw [SC.out]
  rintro e w3 (⟨h0, _, _⟩ | ⟨_, rfl, hw3⟩)
  · exact absurd rfl h0
  have H3 : Hid (HasG w.heap.size g w (fun k => False ∨ k = w2.heap.size) S1 w3) := by show HasG _ _ _ _ _ _; rw [hw3]; exact H2.out.grow _
  have K3 : Hid (Blk w3 w2.heap.size 157 #[.pointer (some ⟨g, 0, none⟩), .int .i64 ((1 : Nat) : Int), .int .i64 ((4 : Nat) : Int), .int .i64 ((3 : Nat) : Int)]) := by show Blk _ _ _ _; rw [hw3]; exact Blk.new w2 _ 157
  clear hw3 H2 M2
  generalize w2.heap.size = sl at *
  go_wp2_with fail
  refine (enter18_any sl 1 4 3 1 K3.out).mono ?_
  rintro e w4 (⟨h0, _, _⟩ | ⟨_, rfl, hw4⟩)
  · exact absurd (by decide) h0
  have H4 : Hid (HasG w.heap.size g w (fun k => (False ∨ k = sl) ∨ k = w3.heap.size) S1 w4) := by show HasG _ _ _ _ _ _; rw [hw4]; exact H3.out.grow _
  have X4 : Hid (Blk w4 w3.heap.size 161 #[.pointer (some ⟨sl, 0, none⟩), .int .i64 ((1 : Nat) : Int), .int .i64 0, .int .i64 0]) := by show Blk _ _ _ _; rw [hw4]; exact Blk.new w3 _ 161
  have K4 : Hid (Blk w4 sl 157 #[.pointer (some ⟨g, 0, none⟩), .int .i64 ((1 : Nat) : Int), .int .i64 ((4 : Nat) : Int), .int .i64 ((3 : Nat) : Int)]) := by show Blk _ _ _ _; rw [hw4]; exact K3.out.keep (Below.heap_alloc w3 _ _ K3.out.lt)
  have hxb : w.heap.size ≤ w3.heap.size := H3.out.le
  clear hw4 H3 K3
  generalize w3.heap.size = xb at *
  go_wp2_with fail
  refine (wait_any sl _).mono ?_
  rintro e w5 ⟨rfl, hw5⟩
  have H5 : Hid (HasG w.heap.size g w (fun k => ((False ∨ k = sl) ∨ k = xb) ∨ k = w4.heap.size) S1 w5) := by show HasG _ _ _ _ _ _; rw [hw5]; exact H4.out.grow _
  have Y5 : Hid (Blk w5 w4.heap.size 159 #[.pointer (some ⟨sl, 0, none⟩), .int .i64 0, .int .i64 (-1)]) := by show Blk _ _ _ _; rw [hw5]; exact Blk.new w4 _ 159
  have X5 : Hid (Blk w5 xb 161 #[.pointer (some ⟨sl, 0, none⟩), .int .i64 ((1 : Nat) : Int), .int .i64 0, .int .i64 0]) := by show Blk _ _ _ _; rw [hw5]; exact X4.out.keep (Below.heap_alloc w4 _ _ X4.out.lt)
  have K5 : Hid (Blk w5 sl 157 #[.pointer (some ⟨g, 0, none⟩), .int .i64 ((1 : Nat) : Int), .int .i64 ((4 : Nat) : Int), .int .i64 ((3 : Nat) : Int)]) := by show Blk _ _ _ _; rw [hw5]; exact K4.out.keep (Below.heap_alloc w4 _ _ K4.out.lt)
  have hgb : w.heap.size ≤ w4.heap.size := H4.out.le
  clear hw5 H4 X4 K4
  generalize w4.heap.size = gr at *
  obtain ⟨G, hG⟩ : ∃ G : Nat → Prop, G = (fun k => ((False ∨ k = sl) ∨ k = xb) ∨ k = gr) := ⟨_, rfl⟩
  rw [← hG] at H5
  have GS : Hid (G sl ∧ G xb ∧ G gr) := by
    show G sl ∧ G xb ∧ G gr
    subst hG
    exact ⟨.inl (.inl (.inr rfl)), .inl (.inr rfl), .inr rfl⟩
  clear hG
  have NE : Hid (sl ≠ xb ∧ sl ≠ gr ∧ xb ≠ gr) := ⟨blk_ne K5.out X5.out (by decide), blk_ne K5.out Y5.out (by decide), blk_ne X5.out Y5.out (by decide)⟩
  have RM1 := Mm.hid (B1.out.2.room (by decide))
  have RM2 := Mm.hid (B2.out.2.room (by decide))
  have RM3 := Mm.hid (B3.out.2.room (by decide))
  have RM4 := Mm.hid (B4.out.2.room (by decide))
  have RM5 := Mm.hid (B5.out.2.room (by decide))
  have RM6 := Mm.hid (B6.out.2.room (by decide))
  have RM7 := Mm.hid (B7.out.2.room (by decide))
  have RM8 := Mm.hid (B8.out.2.room (by decide))
  go_wp2_with fail
  refine (sec_one H5.out sl 1 4 3 xb 1 0 GS.out.1 GS.out.2.1 hxb K5.out X5.out RM1.out.1 RM1.out.2).mono ?_
  rintro e w6 ⟨rfl, h6, x6, k6⟩
  have H6 : Hid (HasG w.heap.size g w G S2 w6) := by show HasG _ _ _ _ _ _; rw [← EE.out.2.1]; exact h6
  have X6 : Hid (Blk w6 xb 161 #[.pointer (some ⟨sl, 0, none⟩), .int .i64 ((1 : Nat) : Int), .int .i64 1, .int .i64 5]) := by
    rw [B2.out.1] at x6; exact x6
  have K6 := Mm.hid (K5.out.keep (k6 _ GS.out.1 NE.out.1))
  have Y6 := Mm.hid (Y5.out.keep (k6 _ GS.out.2.2 NE.out.2.2.symm))
  clear h6 x6 k6 H5 X5 K5 Y5
  go_wp2_with fail
  refine (sec_two H6.out sl 1 4 3 xb 1 5 GS.out.1 GS.out.2.1 hxb K6.out X6.out (by decide) (by decide) RM2.out.1 RM2.out.2).mono ?_
  rintro e w7 ⟨rfl, h7, x7, k7⟩
  have H7 : Hid (HasG w.heap.size g w G S3 w7) := by show HasG _ _ _ _ _ _; rw [← EE.out.2.2.1]; exact h7
  have X7 := Mm.hid x7
  have K7 := Mm.hid (K6.out.keep (k7 _ GS.out.1 NE.out.1))
  have Y7 := Mm.hid (Y6.out.keep (k7 _ GS.out.2.2 NE.out.2.2.symm))
  clear h7 x7 k7 H6 X6 K6 Y6
  go_wp2_with fail
  refine (gr_first H7.out sl 1 4 3 gr 0 GS.out.1 GS.out.2.2 hgb K7.out Y7.out RM3.out.1 RM3.out.2).mono ?_
  rintro e w8 ⟨rfl, h8, y8, k8⟩
  have H8 : Hid (HasG w.heap.size g w G S4 w8) := by show HasG _ _ _ _ _ _; rw [← EE.out.2.2.2.1]; exact h8
  have Y8 : Hid (Blk w8 gr 159 #[.pointer (some ⟨sl, 0, none⟩), .int .i64 6, .int .i64 ((0 : Nat) : Int)]) := by
    rw [B4.out.1, show wrap64 ((5 : Int) + 1) = 6 from by unfold wrap64; omega] at y8; exact y8
  have K8 := Mm.hid (K7.out.keep (k8 _ GS.out.1 NE.out.2.1))
  have X8 := Mm.hid (X7.out.keep (k8 _ GS.out.2.1 NE.out.2.2))
  clear h8 y8 k8 H7 X7 K7 Y7
  go_wp2_with fail
  refine (gr_look H8.out sl 1 4 3 gr 0 6 true (by rw [show ((4 : Nat) : Int) + ((0 : Nat) : Int) = ((4 : Nat) : Int) from rfl, B5.out.1]; decide) (by decide) GS.out.1 GS.out.2.2 hgb K8.out Y8.out (by decide) (by decide) RM4.out.1 RM4.out.2).mono ?_
  rintro e w9 ⟨rfl, h9, y9, k9⟩
  have H9 : Hid (HasG w.heap.size g w G S5 w9) := by show HasG _ _ _ _ _ _; rw [← EE.out.2.2.2.2.1]; exact h9
  have Y9 : Hid (Blk w9 gr 159 #[.pointer (some ⟨sl, 0, none⟩), .int .i64 6, .int .i64 ((1 : Nat) : Int)]) := y9
  have K9 := Mm.hid (K8.out.keep (k9 _ GS.out.1 NE.out.2.1))
  have X9 := Mm.hid (X8.out.keep (k9 _ GS.out.2.1 NE.out.2.2))
  clear h9 y9 k9 H8 X8 K8 Y8
  go_wp2_with fail
  refine (gr_look H9.out sl 1 4 3 gr 1 6 false (by rw [show ((4 : Nat) : Int) + ((1 : Nat) : Int) = ((5 : Nat) : Int) from rfl, B6.out.1]; decide) (by decide) GS.out.1 GS.out.2.2 hgb K9.out Y9.out (by decide) (by decide) RM5.out.1 RM5.out.2).mono ?_
  rintro e wa ⟨rfl, ha, ya, ka⟩
  rw [show grT false 1 3 = false from rfl]
  have Ha : Hid (HasG w.heap.size g w G S6 wa) := by show HasG _ _ _ _ _ _; rw [← EE.out.2.2.2.2.2.1]; exact ha
  have Ya : Hid (Blk wa gr 159 #[.pointer (some ⟨sl, 0, none⟩), .int .i64 6, .int .i64 ((1 : Nat) : Int)]) := ya
  have Ka := Mm.hid (K9.out.keep (ka _ GS.out.1 NE.out.2.1))
  have Xa := Mm.hid (X9.out.keep (ka _ GS.out.2.1 NE.out.2.2))
  clear ha ya ka H9 X9 K9 Y9
  go_wp2_with fail
  refine (gat_any sl 1 4 3 gr 6 ((1 : Nat) : Int) 1 (by decide) Ka.out Ya.out).mono ?_
  rintro e wb ⟨rfl, d, rfl⟩
  have Hb := Mm.hid (Ha.out.drewN d)
  have Yb : Hid (Blk (wa.drewN d) gr 159 #[.pointer (some ⟨sl, 0, none⟩), .int .i64 6, .int .i64 ((1 : Nat) : Int)]) := Ya.out.keep rfl
  have Kb : Hid (Blk (wa.drewN d) sl 157 #[.pointer (some ⟨g, 0, none⟩), .int .i64 ((1 : Nat) : Int), .int .i64 ((4 : Nat) : Int), .int .i64 ((3 : Nat) : Int)]) := Ka.out.keep rfl
  have Xb : Hid (Blk (wa.drewN d) xb 161 #[.pointer (some ⟨sl, 0, none⟩), .int .i64 ((1 : Nat) : Int), .int .i64 2, .int .i64 5]) := Xa.out.keep rfl
  clear Ha Xa Ka Ya
  generalize wa.drewN d = wb at *
  go_wp2_with fail
  refine (gready_any Hb.out sl 1 4 3 gr 1 6 5 (by rw [B6.out.2.1]; rfl) (by decide) Kb.out Yb.out (by decide) (by decide)).mono ?_
  rw [show goes 6 5 = false from by decide]
  rintro e wc ⟨rfl, hc, bc⟩
  have Hc := Mm.hid hc
  have Yc := Mm.hid (Yb.out.keep (bc.block _ Yb.out.lt))
  have Kc := Mm.hid (Kb.out.keep (bc.block _ Kb.out.lt))
  have Xc := Mm.hid (Xb.out.keep (bc.block _ Xb.out.lt))
  clear hc bc Hb Xb Kb Yb
  go_wp2_with fail
  refine (show Calls Try.prog 64 #[.pointer (some ⟨sl, 0, none⟩), .int .i64 1] _ _ from leave18_any Hc.out sl 1 4 3 1 (by decide) GS.out.1 Kc.out (by decide) (by decide) RM6.out.1 RM6.out.2).mono ?_
  rintro e wd ⟨rfl, hd, kd⟩
  have Hd : Hid (HasG w.heap.size g w G S7 wd) := by show HasG _ _ _ _ _ _; rw [← EE.out.2.2.2.2.2.2.1]; exact hd
  have Yd := Mm.hid (Yc.out.keep (kd _ GS.out.2.2))
  have Kd := Mm.hid (Kc.out.keep (kd _ GS.out.1))
  have Xd := Mm.hid (Xc.out.keep (kd _ GS.out.2.1))
  clear hd kd Hc Xc Kc Yc
  go_wp2_with fail
  refine (gr_look Hd.out sl 1 4 3 gr 1 6 true (by rw [show ((4 : Nat) : Int) + ((1 : Nat) : Int) = ((5 : Nat) : Int) from rfl, B8.out.1]; decide) (by decide) GS.out.1 GS.out.2.2 hgb Kd.out Yd.out (by decide) (by decide) RM7.out.1 RM7.out.2).mono ?_
  rintro e we ⟨rfl, he, ye, ke⟩
  have He : Hid (HasG w.heap.size g w G S8 we) := by show HasG _ _ _ _ _ _; rw [← EE.out.2.2.2.2.2.2.2.1]; exact he
  have Ye : Hid (Blk we gr 159 #[.pointer (some ⟨sl, 0, none⟩), .int .i64 6, .int .i64 ((2 : Nat) : Int)]) := ye
  have Ke := Mm.hid (Kd.out.keep (ke _ GS.out.1 NE.out.2.1))
  have Xe := Mm.hid (Xd.out.keep (ke _ GS.out.2.1 NE.out.2.2))
  clear he ye ke Hd Xd Kd Yd
  go_wp2_with fail
  refine (gr_look He.out sl 1 4 3 gr 2 6 true (by rw [show ((4 : Nat) : Int) + ((2 : Nat) : Int) = ((6 : Nat) : Int) from rfl, B9.out.1]; decide) (by decide) GS.out.1 GS.out.2.2 hgb Ke.out Ye.out (by decide) (by decide) RM8.out.1 RM8.out.2).mono ?_
  rintro e wf ⟨rfl, hf, yf, kf⟩
  rw [show grT true 2 3 = true from rfl]
  have Hf : Hid (HasG w.heap.size g w G S9 wf) := by show HasG _ _ _ _ _ _; rw [← EE.out.2.2.2.2.2.2.2.2]; exact hf
  have Yf : Hid (Blk wf gr 159 #[.pointer (some ⟨sl, 0, none⟩), .int .i64 6, .int .i64 ((3 : Nat) : Int)]) := yf
  have Kf := Mm.hid (Ke.out.keep (kf _ GS.out.1 NE.out.2.1))
  have Xf := Mm.hid (Xe.out.keep (kf _ GS.out.2.1 NE.out.2.2))
  clear hf yf kf He Xe Ke Ye
  go_wp2_with fail
  refine (mark_any sl xb 1 2 5 5 (by decide) Xf.out).mono ?_
  rintro e wg ⟨rfl, rfl⟩
  go_wp2_with fail
  refine (gat_any sl 1 4 3 gr 6 ((3 : Nat) : Int) (-1) (by decide) Kf.out Yf.out).mono ?_
  rintro e wg ⟨rfl, d, rfl⟩
  have Hg := Mm.hid (Hf.out.drewN d)
  clear Hf Xf Kf Yf
  generalize wf.drewN d = wg at *
  obtain ⟨Fg, fg, bg, _⟩ := Hg.out.out
  have MG := Mm.hid fg
  have BG := Mm.hid bg
  clear fg bg
  go_wp2_with fail
  refine (trace_any w.heap.size g Fg S9 _ MG.out (by rw [B9.out.2.2.1]; decide)).mono ?_
  rintro e wh ⟨A3, m3, k3, rfl, hk3, O3⟩
  obtain ⟨o1, o2, o3⟩ := O3.out
  rw [B9.out.2.2.1] at o1
  subst o1
  have BH := Mm.hid (BG.out.trans (o3.mono BG.out.size))
  clear o2 o3 O3
  go_wp2
  go_ret
  exact ⟨rfl, BH.out⟩
end Go.Proofs.Ytkbobgblohohcaa

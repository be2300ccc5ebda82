/- The walk of alive. -/
import Derived.Test.YtecppnkfnppmoaaBrd
import Derived.Test.YtecppnkfnppmoaaMxs
import Derived.Test.YtecppnkfnppmoaaFairW
namespace Go.Proofs.Ytecppnkfnppmoaa
open Go.RowKit Go.Mm Go.Sched
attribute [local go_sem] Oper.semAt_some
/-- a board of one counter of two steps -/
structure CB (base bb gc : Nat) (v : Value) (now e : Int) (ts : List Int) (vt : Value) (w : World) : Prop where
  brd : BoB base bb 1 v now [(.iface 28 (.pointer (some ⟨gc, 0, none⟩)), e)] w
  ctr : CtrB w gc 2 vt
  own : w.ownsRow base 3 1 vt ts.length (iL ts)
  lb : base ≤ bb
  lg : base ≤ gc
theorem CB.fr {base bb gc : Nat} {v vt : Value} {now e : Int} {ts : List Int} {w w' : World} (h : CB base bb gc v now e ts vt w) (f : Fr (fun _ => False) w w') : CB base bb gc v now e ts vt w' :=
  ⟨⟨f.blk h.brd.blk fun h => h, f.own h.brd.row fun _ _ h => h, h.brd.len⟩, f.blk h.ctr fun h => h, f.own h.own fun _ _ h => h, h.lb, h.lg⟩
def CbE (base bb gc : Nat) (v : Value) (now e : Int) (ts : List Int) (w : World) (r : Ending) (w' : World) : Prop :=
  ∃ vt, r = .returned (.bool true) ∧ Hid (CB base bb gc v now e ts vt w' ∧ Fr (fun k => base ≤ k) w w')
theorem cb_pick (base bb gc : Nat) (v vt : Value) (now : Int) (ts : List Int) (w : World) (h : CB base bb gc v now (-1) ts vt w) (hB : base ≤ w.heap.size) (hlt : ts.length < 2) (h0 : 0 ≤ now) (h1 : now < 1000) :
    Calls Try.prog 34 #[.pointer (some ⟨bb, 0, none⟩), .int .i64 0] w (CbE base bb gc v (now + 1) (if ts.length + 1 = 2 then now else -1) (ts ++ [now]) w) := by
  have ngb : gc ≠ bb := fun e => by
    have h1 : Blk w gc 72 _ := h.ctr
    have h2 : Blk w bb 75 _ := h.brd.blk
    rw [e] at h1
    have := h1.symm.trans h2
    injection this with this
    injection this with _ this
    cases this
  have n1 : v.ownBlock ≠ some gc := own_ne h.brd.row h.ctr (by decide)
  have n2 : vt.ownBlock ≠ some bb := own_ne h.own h.brd.blk (by decide)
  have n3 : ∀ b, vt.ownBlock = some b → v.ownBlock ≠ some b := fun b hb => own_own_ne h.own h.brd.row (by decide) hb
  have hp := pick_yes base bb 1 0 gc v now [(.iface 28 (.pointer (some ⟨gc, 0, none⟩)), -1)] w
    (fun b w1 w2 => b = decide (((ts.length : Nat) : Int) + 1 = 2) ∧ ∃ vt', CtrB w2 gc 2 vt' ∧ w2.ownsRow base 3 1 vt' (ts ++ [now]).length (iL (ts ++ [now])) ∧ Fr (fun k => k = gc ∨ vt.ownBlock = some k) w1 w2)
    h.brd rfl h0 (by omega)
    (fun w1 f => (ctr_step_notes base gc 2 now vt ts ts.length w1 (f.blk h.ctr ngb) rfl (f.own h.own fun b hb e => n2 (e ▸ hb)) (Nat.le_trans hB f.size) (by omega) (by omega)).mono fun e w2 ⟨h1, v1, h2, h3, _, h5⟩ => ⟨_, h1, rfl, v1, h2, h3, h5⟩)
    (fun b w1 w2 ⟨_, _, _, _, f⟩ => f.mono fun k hk => by
      rcases hk with rfl | hk
      · exact ⟨ngb, n1⟩
      · exact ⟨fun e => n2 (e ▸ hk), n3 k hk⟩)
  refine Calls.mono hp fun e w' hE => ?_
  obtain ⟨b, w1, w2, rfl, f1, ⟨rfl, vt', c2, o2, f2⟩, f3, b4⟩ := hE
  have row2 := f2.own (f1.own h.brd.row fun b hb (e : b = bb) => own_ne h.brd.row h.brd.blk (by decide) (e ▸ hb)) fun b hb hk => by
    rcases hk with rfl | hk
    · exact n1 hb
    · exact n3 b hk hb
  have c3 := f3.blk c2 fun hk => n1 hk
  have o3 := f3.own o2 fun b hb hk => own_own_ne o2 row2 (by decide) hb hk
  have frr : Fr (fun k => base ≤ k) w w' := by
    refine ((f1.mono (T := fun k => base ≤ k) fun k (e : k = bb) => e ▸ h.lb).trans (f2.mono (T := fun k => base ≤ k) fun k hk => ?_) fun _ _ h => h).trans (f3.mono (T := fun k => base ≤ k) fun k hk => (own_lt h.brd.row hk).1) fun _ _ h => h
    rcases hk with rfl | hk
    · exact h.lg
    · exact (own_lt h.own hk).1
  refine ⟨vt', rfl, ⟨?_, c3, o3, h.lb, h.lg⟩, frr⟩
  by_cases hl : ts.length + 1 = 2
  · rw [if_pos hl]
    have : decide (((ts.length : Nat) : Int) + 1 = 2) = true := decide_eq_true (by omega)
    rw [this] at b4
    exact b4
  · rw [if_neg hl]
    have : decide (((ts.length : Nat) : Int) + 1 = 2) = false := decide_eq_false (by omega)
    rw [this] at b4
    exact b4
theorem CB.fr2 {base bb gc : Nat} {v vt : Value} {now e : Int} {ts : List Int} {S : Nat → Prop} {w w' : World} (h : CB base bb gc v now e ts vt w) (f : Fr S w w') (hS : ∀ k, k < w.heap.size → ¬ S k) : CB base bb gc v now e ts vt w' :=
  ⟨⟨f.blk h.brd.blk (hS _ h.brd.blk.lt), f.own h.brd.row fun _ hb => hS _ (own_lt h.brd.row hb).2, h.brd.len⟩, f.blk h.ctr (hS _ (Blk.lt h.ctr)), f.own h.own fun _ hb => hS _ (own_lt h.own hb).2, h.lb, h.lg⟩
theorem fair00 : Go.Fly.Fairly [0, 0] [-1] 1 := by
  refine ⟨by decide, fun t x h => ?_⟩
  match t, h with
  | 0, h => simp at h; subst h; show Go.Fly.Ok [0, 0] 0 2 1; unfold Go.Fly.Ok; decide
  | t + 1, h => simp at h
/-- so many rounds: the count stands in its box, and nothing else has turned -/
structure AlI (w9 : World) (kb : Nat) (pre : List (Value × List Int)) (W : World) : Prop where
  le : pre.length ≤ 2
  box : Blk W kb 3 #[.int .i64 (pre.length : Nat)]
  fr : Fr (fun k => k = kb ∨ w9.heap.size ≤ k) w9 W
theorem AlI.fr' {w9 : World} {kb : Nat} {pre : List (Value × List Int)} {X Y : World} (h : AlI w9 kb pre X) (hf : Fr (Gk w9.heap.size 8) X Y) (hk : kb < w9.heap.size) : AlI w9 kb pre Y :=
  ⟨h.le, hf.blk h.box fun e => by have := e.1; omega, h.fr.trans hf fun _ _ e => .inr e.1⟩
theorem eqf (ob lb : Nat) (w : World) : (binOp .eql 59 (.func (.func 50) #[] #[.pointer (some ⟨ob, 0, none⟩), .pointer (some ⟨lb, 0, none⟩)]) .nilFunc).run Try.prog w = .ok (.bool false) w := by kernel_rfl
theorem ok11 : okS [1, 1] := by
  refine ⟨by decide, fun k x h => ?_⟩
  match k, h with
  | 0, h => simp at h; subst h; decide
  | 1, h => simp at h; subst h; decide
  | k + 2, h => simp at h
theorem ord2 : ordN (srt [1, 1]) 2 = none := by decide
set_option maxRecDepth 100000 in
set_option maxHeartbeats 4000000 in
theorem alive_any (w : World) : Calls Try.prog 32 #[] w fun e w' => e = .returned (.bool true) ∧ Hid (Fr (fun _ => False) w w') := by
  refine (callsIn_wide (n := 0)).1 ?_
  refine callsIn_of_wp_marks Try.func32 rfl trivial ?_ rfl
  simp only [Try.ntmps32, List.size_toArray, List.length_nil, Nat.reduceSub, Array.replicate_succ, Array.replicate_zero, List.push_toArray, List.append_toArray, List.nil_append, List.cons_append]
  refine wpIn_wide.2 ?_
  obtain ⟨w0, hw0⟩ : ∃ w0, w.alloc (.cells #[.bool false] 4) = w0 := ⟨_, rfl⟩
  have B0 : Hid (Blk w0 w.heap.size 4 #[.bool false]) := by show Blk _ _ _ _; rw [← hw0]; exact Blk.new w _ _
  have S0 : Hid (w0.heap.size = w.heap.size + 1) := by show _ = _; rw [← hw0]; simp
  have F0 : Hid (Fr (fun _ => False) w w0) := by show Fr _ _ _; rw [← hw0]; exact Fr.alloc _ _ _
  have NB := Mm.hid (new_any w0)
  have HW0 := Mm.hid hw0
  clear hw0
  go_wp2_with fail
  rw [HW0.out]
  refine NB.out.mono ?_
  rintro e w1 ⟨rfl, hw1⟩
  have B1 : Hid (Blk w1 w0.heap.size 75 #[.slice none 0 0, .int .i64 0]) := by show Blk _ _ _ _; rw [hw1]; exact Blk.new w0 _ _
  have S1 : Hid (w1.heap.size = w0.heap.size + 1) := by show _ = _; rw [hw1]; simp
  have F1 : Hid (Fr (fun _ => False) w0 w1) := by show Fr _ _ _; rw [hw1]; exact Fr.alloc _ _ _
  have NC := Mm.hid (newctr_any 2 w1)
  clear hw1 NB HW0
  go_wp2_with fail
  refine NC.out.mono ?_
  rintro e w2 ⟨rfl, hw2⟩
  have B2 : Hid (CtrB w2 w1.heap.size 2 (.slice none 0 0)) := by show Blk _ _ _ _; rw [hw2]; exact Blk.new w1 _ _
  have S2 : Hid (w2.heap.size = w1.heap.size + 1) := by show _ = _; rw [hw2]; simp
  have F2 : Hid (Fr (fun _ => False) w1 w2) := by show Fr _ _ _; rw [hw2]; exact Fr.alloc _ _ _
  clear hw2 NC
  have hgb : w1.heap.size ≠ w0.heap.size := by have := S1.out; omega
  have BB : Hid (BoB w0.heap.size w0.heap.size 0 (.slice none 0 0) 0 [] w2) := ⟨F2.out.blk B1.out fun h => h, ⟨rfl, .inl ⟨rfl, rfl⟩⟩, rfl⟩
  have JC := Mm.hid (join_any w0.heap.size w0.heap.size 0 w1.heap.size (.slice none 0 0) 0 [] w2 BB.out (Nat.le_trans F1.out.size F2.out.size) (by decide))
  go_wp2_with fail
  refine JC.out.mono ?_
  rintro e w3 ⟨v3, rfl, J3⟩
  have C3 : Hid (CB w0.heap.size w0.heap.size w1.heap.size v3 0 (-1) [] (.slice none 0 0) w3) := ⟨J3.out.1, J3.out.2.2.blk B2.out (fun h => by rcases h with h | h; exact hgb h; cases h), ⟨rfl, .inl ⟨rfl, rfl⟩⟩, Nat.le_refl _, by have := S1.out; omega⟩
  have F3 : Hid (Fr (fun k => w0.heap.size ≤ k) w0 w3) := ((F1.out.trans F2.out fun _ _ h => h).mono fun _ h => h.elim).trans J3.out.2.2 fun k _ h => by rcases h with rfl | h; exact Nat.le_refl _; cases h
  clear JC BB J3 B1 B2 S2
  have P1 := Mm.hid (cb_pick w0.heap.size w0.heap.size w1.heap.size v3 (.slice none 0 0) 0 [] w3 C3.out F3.out.size (by decide) (by decide) (by decide))
  go_wp2_with fail
  refine P1.out.mono ?_
  rintro e w4 ⟨vt4, rfl, K4⟩
  have C4 : Hid (CB w0.heap.size w0.heap.size w1.heap.size v3 1 (-1) [0] vt4 w4) := K4.out.1
  have F4 : Hid (Fr (fun k => w0.heap.size ≤ k) w0 w4) := F3.out.trans K4.out.2 fun _ _ h => h
  clear P1 K4 C3 F3
  have P2 := Mm.hid (cb_pick w0.heap.size w0.heap.size w1.heap.size v3 vt4 1 [0] w4 C4.out F4.out.size (by decide) (by decide) (by decide))
  go_wp2_with fail
  refine P2.out.mono ?_
  rintro e w5 ⟨vt5, rfl, K5⟩
  have C5 : Hid (CB w0.heap.size w0.heap.size w1.heap.size v3 2 1 [0, 1] vt5 w5) := K5.out.1
  have F5 : Hid (Fr (fun k => w0.heap.size ≤ k) w0 w5) := F4.out.trans K5.out.2 fun _ _ h => h
  clear P2 K5 C4 F4
  have P3 := Mm.hid (pick_no w0.heap.size w0.heap.size 1 0 v3 (.iface 28 (.pointer (some ⟨w1.heap.size, 0, none⟩))) 2 1 [(.iface 28 (.pointer (some ⟨w1.heap.size, 0, none⟩)), 1)] w5 C5.out.brd rfl (by decide) (by decide) (by decide))
  go_wp2_with fail
  refine P3.out.mono ?_
  rintro e w6 ⟨v6, rfl, K6⟩
  have C6 : Hid (CB w0.heap.size w0.heap.size w1.heap.size v6 3 1 [0, 1] vt5 w6) := by
    have n1 := own_ne C5.out.brd.row C5.out.ctr (by decide)
    refine ⟨K6.out.1, K6.out.2.2.blk C5.out.ctr fun h => ?_, K6.out.2.2.own C5.out.own fun b hb h => ?_, C5.out.lb, C5.out.lg⟩
    · rcases h with h | h
      · exact hgb h
      · exact n1 h
    · rcases h with h | h
      · exact own_ne C5.out.own C5.out.brd.blk (by decide) (h ▸ hb)
      · exact own_own_ne C5.out.own C5.out.brd.row (by decide) hb h
  have F6 : Hid (Fr (fun k => w0.heap.size ≤ k) w0 w6) := F5.out.trans K6.out.2.2 fun k _ h => by
    rcases h with rfl | h
    · exact Nat.le_refl _
    · exact (own_lt C5.out.brd.row h).1
  clear P3 K6 C5 F5
  obtain ⟨w7, hw7⟩ : ∃ w7, w6.alloc (.cells #[.int .i64 0] 3) = w7 := ⟨_, rfl⟩
  obtain ⟨w8, hw8⟩ : ∃ w8, w7.alloc (.cells #[.int .i64 1, .int .i64 1] 3) = w8 := ⟨_, rfl⟩
  have F7 : Hid (Fr (fun _ => False) w6 w7) := by show Fr _ _ _; rw [← hw7]; exact Fr.alloc _ _ _
  have F8 : Hid (Fr (fun _ => False) w7 w8) := by show Fr _ _ _; rw [← hw8]; exact Fr.alloc _ _ _
  have S7 : Hid (w7.heap.size = w6.heap.size + 1) := by show _ = _; rw [← hw7]; simp
  have B7 : Hid (Blk w8 w6.heap.size 3 #[.int .i64 0]) := by show Blk _ _ _ _; refine F8.out.blk ?_ (fun h => h); rw [← hw7]; exact Blk.new w6 _ _
  have R8 : Hid (Rd w8 (some ⟨w7.heap.size, 0, none⟩) 2 1 (iL [1, 1])) := by show Rd _ _ _ _ _; rw [← hw8]; exact Rd.lit w7 #[.int .i64 1, .int .i64 1] 3 2 rfl
  have MC := Mm.hid (mixes_ok (some ⟨w7.heap.size, 0, none⟩) 2 2 [1, 1] w8 R8.out rfl ok11)
  have H7 := Mm.hid hw7
  have H8 := Mm.hid hw8
  rw [S7.out] at MC
  clear hw7 hw8 R8
  go_wp2_with fail
  rw [H7.out, H8.out]
  refine MC.out.mono ?_
  rintro e w9 ⟨ob, lb, n9, c9, A9, rfl, M9⟩
  have en : 2 = n9 := M9.out.1
  subst en
  have F9 := Mm.hid (Fr.of_below M9.out.2.2.2.2)
  have B9 := Mm.hid (F9.out.blk B7.out fun h => h)
  have F09 : Hid (Fr (fun k => w0.heap.size ≤ k) w0 w9) := F6.out.trans ((F7.out.trans F8.out fun _ _ h => h).trans F9.out fun _ _ h => h) fun _ _ h => h.elim
  have MI := Mm.hid (mix_iter ob lb A9 2 c9 (srt [1, 1]) w9 (by decide) M9.out.2.1 M9.out.2.2.1 M9.out.2.2.2.1 M9.out.1 (by decide))
  clear MC M9 H7 H8 B7 F6
  have hqf := eqf ob lb
  go_wp2_with fail
  refine (wpIn_wide (n := 0)).1 ?_
  refine wpIn_iter (gf := 50) (lb := #[.pointer (some ⟨ob, 0, none⟩), .pointer (some ⟨lb, 0, none⟩)]) (k := 6) rfl (enters_of Try.func50 (by kernel_rfl) rfl) (fun _ => rfl) MI.out mixV_keep
    (AlI w9 w6.heap.size) (fun _ _ _ => False) ?hI (fun _ _ _ _ h _ => h) ?h0 2 (fun _ _ h => h.le)
    (fun x => { tmps := #[.pointer (some ⟨w.heap.size, 0, none⟩), .pointer (some ⟨w0.heap.size, 0, none⟩), .pointer (some ⟨w1.heap.size, 0, none⟩), .int .i64 0, .int .i64 0, .bool true, .bool true, .bool false, .pointer (some ⟨w6.heap.size, 0, none⟩), .func (.func 50) #[] #[.pointer (some ⟨ob, 0, none⟩), .pointer (some ⟨lb, 0, none⟩)], x.1, .pointer (some ⟨w0.heap.size, 0, none⟩), .pointer (some ⟨w1.heap.size, 0, none⟩), .pointer (some ⟨w0.heap.size, 0, none⟩), .bool false, .bool false, .pointer (some ⟨w1.heap.size, 0, none⟩), .bool false, .bool false, .tuple #[.int .i64 0, .int .i64 0], .pointer (some ⟨w0.heap.size, 0, none⟩), .pointer (some ⟨w1.heap.size, 0, none⟩), .iface 28 (.pointer (some ⟨w1.heap.size, 0, none⟩)), .tuple #[.int .i64 0, .int .i64 0], .int .i64 0, .int .i64 0, .pointer (some ⟨w0.heap.size, 0, none⟩), .bool true, .pointer (some ⟨w0.heap.size, 0, none⟩), .bool true, .pointer (some ⟨w0.heap.size, 0, none⟩), .bool false, .slice (some ⟨w6.heap.size + 1, 0, none⟩) 2 2, .func (.func 50) #[] #[.pointer (some ⟨ob, 0, none⟩), .pointer (some ⟨lb, 0, none⟩)], .func (.func 50) #[] #[.pointer (some ⟨ob, 0, none⟩), .pointer (some ⟨lb, 0, none⟩)], .bool false, .func (.func 50) #[] #[.pointer (some ⟨ob, 0, none⟩), .pointer (some ⟨lb, 0, none⟩)], x.1, undef, undef, undef, undef, undef, undef, undef, undef, undef, undef, undef, undef, undef, undef, undef, undef, undef, undef, undef, undef, undef, undef, undef, undef, undef, undef, undef, undef, undef, undef, undef, undef, undef, undef, undef, undef, undef, undef, undef, undef, undef, undef, undef, undef, undef, undef, undef, undef, undef, undef, undef, undef, undef], defers := [] }) ?assign ?body ?done (fun _ _ _ h _ => h.elim)
  case hI =>
    intro pre X Y h hf
    exact h.fr' hf (by have := F7.out.size; have := F8.out.size; have := F9.out.size; have := S7.out; omega)
  case h0 => exact ⟨by decide, B9.out, Fr.refl _ _⟩
  case assign =>
    intro l' x X K hK
    gi_wp2
    exact hK
  case body =>
    rintro pre ⟨xv, xl⟩ X ⟨h1, h2, h3⟩ ⟨v1, v2, A', c', v3, v4, v5⟩ hsz
    simp only at v1 v3 v5
    subst v3
    have hp : pre.length ≤ 1 := by
      rcases Nat.lt_or_ge 1 pre.length with h | h
      · have : pre.length = 2 := by omega
        rw [this] at v1
        exact absurd (v1.symm.trans ord2) (by simp)
      · exact h
    have kb : w6.heap.size + 1 ≤ w9.heap.size := by have := F7.out.size; have := F8.out.size; have := F9.out.size; have := S7.out; omega
    have hcell := (show X.cell? ⟨w6.heap.size, 0, none⟩ = some (.int .i64 (pre.length : Nat)) from Blk.cell h2 0)
    have HP : Hid (pre.length ≤ 1) := hp
    have hpi : (0 : Int) ≤ (pre.length : Nat) := by omega
    have hpj : ((pre.length : Nat) : Int) ≤ 1 := by omega
    have hfree := Blk.free h2 0
    have HBX := Mm.hid h2
    have HFX := Mm.hid h3
    have HKB := Mm.hid kb
    clear h1 h2 h3 v1 v4 v5 hsz MI C6 F09 kb hp
    gi_wp2
    have FS : Hid (Fr (fun k => k = w6.heap.size) X (X.setCell ⟨w6.heap.size, 0, none⟩ (.int .i64 ((pre.length : Nat) + 1)))) := Fr.setCell X ⟨w6.heap.size, 0, none⟩ _
    refine ⟨Hold.of_fr FS.out fun g hg e => (by have := hg.1; have := HKB.out; omega), ⟨by simp; have := HP.out; omega, ?_, HFX.out.trans FS.out fun _ _ e => .inl e⟩⟩
    have hb := HBX.out.set 0 (.int .i64 ((pre.length : Nat) + 1))
    rw [List.length_append, List.length_singleton]
    exact hb
  case done =>
    rintro xs X ⟨hs, _⟩ ⟨h1, h2, h3⟩ hD
    have hl : xs.length = 2 := by
      match xs.length, h1, hs with
      | 0, _, h => exact absurd h (by decide)
      | 1, _, h => exact absurd h (by decide)
      | 2, _, _ => rfl
    rw [hl] at h2
    have FX := Mm.hid h3
    have hD := Mm.hid hD
    have kb : w6.heap.size + 1 ≤ w9.heap.size := by have := F7.out.size; have := F8.out.size; have := F9.out.size; have := S7.out; omega
    have fX : Fr (fun k => w6.heap.size ≤ k) w6 X := (((F7.out.trans F8.out fun _ _ h => h).trans F9.out fun _ _ h => h).mono fun _ h => h.elim).trans h3 fun k _ e => by rcases e with e | e <;> omega
    have CX : Hid (CB w0.heap.size w0.heap.size w1.heap.size v6 3 1 [0, 1] vt5 X) := C6.out.fr2 fX fun k hk => by omega
    have kx : w9.heap.size ≤ X.heap.size := h3.size
    have s01 : w0.heap.size + 1 ≤ w6.heap.size := C6.out.brd.blk.lt
    have F0X : Hid (Fr (fun k => w0.heap.size ≤ k) w0 X) := F09.out.trans h3 fun k _ e => by rcases e with e | e; omega; exact Nat.le_trans F09.out.size e
    have EX := Mm.hid (ended_any w0.heap.size w0.heap.size 1 0 v6 _ 3 1 _ X CX.out.brd rfl)
    have NX := Mm.hid (now_any w0.heap.size w0.heap.size 1 v6 3 _ X CX.out.brd)
    have TX := Mm.hid (times_any w0.heap.size w1.heap.size 2 vt5 [0, 1] 2 X CX.out.ctr rfl CX.out.own (by decide))
    have BX := Mm.hid h2
    clear h1 hs hl h3 h2 MI F09 B9 F7 F8 F9 S7 C6 fX
    go_wp2_with fail
    refine EX.out.mono ?_
    rintro _ X' ⟨rfl, eX⟩
    rw [eX]
    clear eX X'
    go_wp2_with fail
    refine NX.out.mono ?_
    rintro _ X' ⟨rfl, eX⟩
    rw [eX]
    clear eX X'
    go_wp2_with fail
    refine TX.out.mono ?_
    rintro _ X1 ⟨A1, m1, c1, rfl, hc1, T1⟩
    have e1 : 2 = m1 := T1.out.1
    subst e1
    have FX1 := Mm.hid (Fr.of_below T1.out.2.2)
    have RX := Mm.hid (sched_round_any 2 3 X1)
    clear TX EX NX CX T1
    go_wp2_with fail
    refine RX.out.mono ?_
    rintro _ X2 ⟨A2, m2, c2, rfl, hc2, T2⟩
    have e2 : 3 = m2 := T2.out.1
    subst e2
    have FX2 := Mm.hid (Fr.of_below T2.out.2.2)
    clear RX T2
    obtain ⟨X3, hX3⟩ : ∃ X3, X2.alloc (.cells #[.int .i64 0, .int .i64 0] 3) = X3 := ⟨_, rfl⟩
    obtain ⟨X4, hX4⟩ : ∃ X4, X3.alloc (.cells #[.int .i64 (-1)] 3) = X4 := ⟨_, rfl⟩
    have FX3 : Hid (Fr (fun _ => False) X2 X3) := by show Fr _ _ _; rw [← hX3]; exact Fr.alloc _ _ _
    have FX4 : Hid (Fr (fun _ => False) X3 X4) := by show Fr _ _ _; rw [← hX4]; exact Fr.alloc _ _ _
    have R3 : Hid (Rd X4 (some ⟨X2.heap.size, 0, none⟩) 2 1 (iL [0, 0])) := FX4.out.rd (by rw [← hX3]; exact Rd.lit X2 #[.int .i64 0, .int .i64 0] 3 2 rfl) (fun _ _ h => h)
    have R4 : Hid (Rd X4 (some ⟨X3.heap.size, 0, none⟩) 1 1 (iL [-1])) := by show Rd _ _ _ _ _; rw [← hX4]; exact Rd.lit X3 #[.int .i64 (-1)] 3 1 rfl
    have SX3 : Hid (X3.heap.size = X2.heap.size + 1) := by show _ = _; rw [← hX3]; simp
    have FA := Mm.hid (fair_any (some ⟨X2.heap.size, 0, none⟩) 2 2 (some ⟨X3.heap.size, 0, none⟩) 1 1 [0, 0] [-1] 1 X4 R3.out R4.out (by decide) (by decide) (by decide) (by decide) (by decide) (by decide))
    rw [SX3.out] at FA
    have HX3 := Mm.hid hX3
    have HX4 := Mm.hid hX4
    clear hX3 hX4 R3 R4
    go_wp2_with fail
    rw [HX3.out, HX4.out]
    refine FA.out.mono ?_
    rintro _ X' ⟨b, rfl, hb, eX⟩
    rw [← eX]
    clear eX X'
    have ebt : b = true := hb.2 fair00
    subst ebt
    have s12 : X.heap.size ≤ X4.heap.size := Nat.le_trans FX1.out.size (Nat.le_trans FX2.out.size (Nat.le_trans FX3.out.size FX4.out.size))
    have fX4 : Fr (fun k => X.heap.size ≤ k) X X4 := ((FX1.out.trans FX2.out fun _ _ h => h).trans FX3.out fun _ _ h => h).trans FX4.out (fun _ _ h => h) |>.mono fun _ h => h.elim
    have B4 := fX4.blk BX.out (by show ¬ _ ≤ _; omega)
    have hc : X4.cell? ⟨w6.heap.size, 0, none⟩ = some (.int .i64 2) := Blk.cell B4 0
    have BR := fX4.blk (F0X.out.blk B0.out (by have := S0.out; show ¬ _ ≤ _; omega)) (by have := S0.out; have := Mm.Blk.lt BX.out; show ¬ _ ≤ _; omega)
    have hf := Blk.free BR 0
    have hr : X4.cell? ⟨w.heap.size, 0, none⟩ = some (.bool false) := Blk.cell BR 0
    have F4X : Hid (Fr (fun k => X.heap.size ≤ k) X X4) := fX4
    have BRH := Mm.hid BR
    have D4 : Hid (X4.heap[w9.heap.size]? = some (.deferred (some []))) := (fX4.block _ (by have := (Array.getElem?_eq_some_iff.1 hD.out).1; exact this) (by have := (Array.getElem?_eq_some_iff.1 hD.out).1; show ¬ _ ≤ _; omega)).trans hD.out
    clear FA hb HX3 HX4 SX3 FX1 FX2 FX3 FX4 B4 BX BR fX4 hD
    go_wp2_with fail
    obtain ⟨X5, hX5⟩ : ∃ X5, X4.setCell ⟨w.heap.size, 0, none⟩ (.bool true) = X5 := ⟨_, rfl⟩
    have FS : Fr (fun k => k = w.heap.size) X4 X5 := by rw [← hX5]; exact Fr.setCell X4 ⟨w.heap.size, 0, none⟩ _
    have B5 : Blk X5 w.heap.size 4 #[.bool true] := by rw [← hX5]; exact BRH.out.set 0 (.bool true)
    have dlt := (Array.getElem?_eq_some_iff.1 D4.out).1
    have ne : w9.heap.size ≠ w.heap.size := by have := S0.out; omega
    have D5 : X5.heap[w9.heap.size]? = some (.deferred (some [])) := (FS.block _ dlt ne).trans D4.out
    have FP : Fr (fun k => k = w9.heap.size) X5 (X5.putObj w9.heap.size (.deferred none)) := Fr.putObj X5 _ _ rfl
    have B6 : Blk (X5.putObj w9.heap.size (.deferred none)) w.heap.size 4 #[.bool true] := FP.blk B5 fun e => ne e.symm
    have hc6 : (X5.putObj w9.heap.size (.deferred none)).cell? ⟨w.heap.size, 0, none⟩ = some (.bool true) := Blk.cell B6 0
    have fin : Fr (fun k => w.heap.size ≤ k) w (X5.putObj w9.heap.size (.deferred none)) := by
      have h0 : w.heap.size ≤ w0.heap.size := by have := S0.out; omega
      have h9 : w.heap.size ≤ w9.heap.size := by omega
      have hx : w.heap.size ≤ X.heap.size := by omega
      refine ((((F0.out.mono fun _ h => h.elim).trans F0X.out fun k _ h => Nat.le_trans h0 h).trans F4X.out fun k _ h => Nat.le_trans hx h).trans FS fun k _ h => Nat.le_of_eq h.symm).trans FP fun k _ h => (h ▸ h9 : w.heap.size ≤ k)
    rw [hX5]
    refine ⟨by simp, .inl ⟨_, _, rfl, run_takeDeferred D5, ?_⟩⟩
    refine ⟨.bool true, ?_, rfl, fin.os, fin.tape, fin.output, fin.size, fun g hg _ => fin.block g hg (by omega)⟩
    simp [results, Try.f32, go_sem, hc6]
end Go.Proofs.Ytecppnkfnppmoaa

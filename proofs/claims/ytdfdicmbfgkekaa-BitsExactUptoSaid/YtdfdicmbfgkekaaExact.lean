/- Walks: a call on both, any; both alike. -/
import Derived.Test.YtdfdicmbfgkekaaPair
import Derived.Deep.CutRange
namespace Go.Proofs.Ytdfdicmbfgkekaa
open Go.RowKit Go.Mm Go.Bs
theorem box2 (w : World) (c1 c2 : Array Value) (t1 t2 : TypeId) (j : Nat) : ((w.alloc (.cells c1 t1)).alloc (.cells c2 t2)).cell? ⟨w.heap.size, j, none⟩ = c1[j]? ∧ ((w.alloc (.cells c1 t1)).alloc (.cells c2 t2)).cell? ⟨w.heap.size + 1, j, none⟩ = c2[j]? := by
  have h1 := ((Blk.new w c1 t1).keep (Below.heap_alloc _ (.cells c2 t2) _ (by simp))).cell j
  have h2 := Blk.new (w.alloc (.cells c1 t1)) c2 t2
  rw [show (w.alloc (.cells c1 t1)).heap.size = w.heap.size + 1 from by simp] at h2
  exact ⟨h1, h2.cell j⟩
/-- what 'Quad' tells, its words written out -/
theorem quad_is (r : Nat) (S : Nat → Bool) (k : Int) : ∃ (x0 x1 x2 x3 : Int) (ok : Bool), quadV r S k = .tuple #[.agg #[.int .u64 x0, .int .u64 x1, .int .u64 x2, .int .u64 x3], .bool ok] := by
  unfold quadV
  split
  · exact ⟨_, _, _, _, _, rfl⟩
  · exact ⟨_, _, _, _, _, rfl⟩
theorem eq64_same (a b c d : Int) (W : World) : (Op.equalIn 10000 64 (.agg #[.int .u64 a, .int .u64 b, .int .u64 c, .int .u64 d]) (.agg #[.int .u64 a, .int .u64 b, .int .u64 c, .int .u64 d])).run Try.prog W = .ok true W := by
  have := eq64 9998 a b c d a b c d W
  simpa using this
set_option maxRecDepth 100000 in
set_option maxHeartbeats 4000000 in
theorem one_quad (p : Pr) (r : Nat) (S : Nat → Bool) (s o n : Int) (w : World) (h : PairB w p r S) :
    Calls Try.prog 31 #[.agg #[.pointer (some ⟨p.a, 0, none⟩), .pointer (some ⟨p.b, 0, none⟩)], .agg #[.int .i64 8, .int .i64 s, .int .i64 o, .int .i64 n]] w (OneEnds p r w) := by
  obtain ⟨a, g, b, l, h', lo, hi⟩ := p
  have H := Mm.hid h
  have bl := ((Below.refl w.heap.size w).alloc (Nat.le_refl _) (.cells #[.pointer (some ⟨a, 0, none⟩), .pointer (some ⟨b, 0, none⟩)] 52)).alloc (by simp) (.cells #[.int .i64 8, .int .i64 s, .int .i64 o, .int .i64 n] 54)
  have K0 : Hid (PairB ((w.alloc (.cells #[.pointer (some ⟨a, 0, none⟩), .pointer (some ⟨b, 0, none⟩)] 52)).alloc (.cells #[.int .i64 8, .int .i64 s, .int .i64 o, .int .i64 n] 54)) ⟨a, g, b, l, h', lo, hi⟩ r S ∧ Below w.heap.size w ((w.alloc (.cells #[.pointer (some ⟨a, 0, none⟩), .pointer (some ⟨b, 0, none⟩)] 52)).alloc (.cells #[.int .i64 8, .int .i64 s, .int .i64 o, .int .i64 n] 54))) := Mm.hid ⟨h.below bl, bl⟩
  have k1 := (box2 w #[.pointer (some ⟨a, 0, none⟩), .pointer (some ⟨b, 0, none⟩)] #[.int .i64 8, .int .i64 s, .int .i64 o, .int .i64 n] 52 54 1).1
  have k2 := (box2 w #[.pointer (some ⟨a, 0, none⟩), .pointer (some ⟨b, 0, none⟩)] #[.int .i64 8, .int .i64 s, .int .i64 o, .int .i64 n] 52 54 3).2
  have KK := Mm.hid (And.intro k1 k2)
  have htop := h.top
  dsimp only at htop
  clear k1 k2 h bl
  obtain ⟨x0, x1, x2, x3, ok, hq⟩ := quad_is r S n
  have HQ := Mm.hid hq
  clear hq
  dsimp only
  go_enter Try.func31, Try.ntmps31
  go_wp2_with fail
  refine (quad_any a g r S n _ K0.out.1.set).mono ?_
  rintro e w1 ⟨rfl, b1⟩
  rw [HQ.out]
  have K1 : Hid (Below w.heap.size w w1 ∧ PairB w1 ⟨a, g, b, l, h', lo, hi⟩ r S ∧ w1.cell? ⟨w.heap.size, 1, none⟩ = some (.pointer (some ⟨b, 0, none⟩)) ∧ w1.cell? ⟨w.heap.size + 1, 3, none⟩ = some (.int .i64 n)) :=
    Mm.hid ⟨K0.out.2.trans (b1.mono K0.out.2.size), K0.out.1.below b1, (Fr.of_below b1).cell KK.out.1 (fun h => h), (Fr.of_below b1).cell KK.out.2 (fun h => h)⟩
  clear b1
  have K2 : Hid (PairB (w1.alloc (.cells #[.int .u64 x0, .int .u64 x1, .int .u64 x2, .int .u64 x3] 64)) ⟨a, g, b, l, h', lo, hi⟩ r S ∧ Below w.heap.size w (w1.alloc (.cells #[.int .u64 x0, .int .u64 x1, .int .u64 x2, .int .u64 x3] 64))) := Mm.hid ⟨K1.out.2.1.below ((Below.refl _ _).alloc (Nat.le_refl _) _), K1.out.1.alloc K1.out.1.size _⟩
  have c1 := (Fr.alloc (fun _ => False) w1 (.cells #[.int .u64 x0, .int .u64 x1, .int .u64 x2, .int .u64 x3] 64)).cell K1.out.2.2.1 (fun h => h)
  have c2 := (Fr.alloc (fun _ => False) w1 (.cells #[.int .u64 x0, .int .u64 x1, .int .u64 x2, .int .u64 x3] 64)).cell K1.out.2.2.2 (fun h => h)
  go_wp2_with fail
  refine (rquad_any l h' b r S n _ K2.out.1.ref).mono ?_
  rintro e w2 ⟨rfl, b2⟩
  rw [HQ.out]
  have d0 : w2.cell? ⟨w1.heap.size, 0, none⟩ = some (.int .u64 x0) := (Fr.of_below b2).cell ((Blk.new w1 _ 64).cell 0) (fun h => h)
  have d1 : w2.cell? ⟨w1.heap.size, 1, none⟩ = some (.int .u64 x1) := (Fr.of_below b2).cell ((Blk.new w1 _ 64).cell 1) (fun h => h)
  have d2 : w2.cell? ⟨w1.heap.size, 2, none⟩ = some (.int .u64 x2) := (Fr.of_below b2).cell ((Blk.new w1 _ 64).cell 2) (fun h => h)
  have d3 : w2.cell? ⟨w1.heap.size, 3, none⟩ = some (.int .u64 x3) := (Fr.of_below b2).cell ((Blk.new w1 _ 64).cell 3) (fun h => h)
  have hsz2 : w1.heap.size < w2.heap.size := World.block_lt_of_cell? w2 ⟨w1.heap.size, 0, none⟩ d0
  have K3 : Hid (PairB (w2.alloc (.cells #[.int .u64 x0, .int .u64 x1, .int .u64 x2, .int .u64 x3] 64)) ⟨a, g, b, l, h', lo, hi⟩ r S ∧ Below w.heap.size w (w2.alloc (.cells #[.int .u64 x0, .int .u64 x1, .int .u64 x2, .int .u64 x3] 64))) :=
    Mm.hid ⟨(K2.out.1.below b2).below ((Below.refl _ _).alloc (Nat.le_refl _) _), (K2.out.2.trans (b2.mono K2.out.2.size)).alloc (Nat.le_trans K2.out.2.size b2.size) _⟩
  have e64 := eq64_same x0 x1 x2 x3
  clear b2 c1 c2
  go_wp2
  go_ret
  exact ⟨rfl, S, K3.out.1, (Fr.of_below K3.out.2).mono (fun _ h => h.elim)⟩
set_option maxRecDepth 100000 in
set_option maxHeartbeats 4000000 in
theorem one_else (p : Pr) (r : Nat) (S : Nat → Bool) (kd s o n : Int) (w : World) (h : PairB w p r S) (h1 : kd ≠ 1) (h2 : kd ≠ 2) (h3 : kd ≠ 3) (h4 : kd ≠ 4) (h8 : kd ≠ 8) (h9 : kd ≠ 9) :
    Calls Try.prog 31 #[.agg #[.pointer (some ⟨p.a, 0, none⟩), .pointer (some ⟨p.b, 0, none⟩)], .agg #[.int .i64 kd, .int .i64 s, .int .i64 o, .int .i64 n]] w (OneEnds p r w) := by
  have FIN : Hid (∀ cs cs' : Array Value, OneEnds p r w (.returned (.bool true)) ((w.alloc (.cells cs 52)).alloc (.cells cs' 54))) := Mm.hid fun cs cs' => by
    have bl := ((Below.refl w.heap.size w).alloc (Nat.le_refl _) (.cells cs 52)).alloc (by simp) (.cells cs' 54)
    exact ⟨rfl, S, h.below bl, (Fr.of_below bl).mono (fun _ h => h.elim)⟩
  have z1 : (kd == 1) = false := by simpa using h1
  have z2 : (kd == 2) = false := by simpa using h2
  have z3 : (kd == 3) = false := by simpa using h3
  have z4 : (kd == 4) = false := by simpa using h4
  have z8 : (kd == 8) = false := by simpa using h8
  have z9 : (kd == 9) = false := by simpa using h9
  clear h h1 h2 h3 h4 h8 h9
  go_enter Try.func31, Try.ntmps31
  go_wp2
  go_ret
  exact FIN.out _ _
theorem one_any (p : Pr) (r : Nat) (S : Nat → Bool) (kd s o n : Int) (w : World) (h : PairB w p r S) :
    Calls Try.prog 31 #[.agg #[.pointer (some ⟨p.a, 0, none⟩), .pointer (some ⟨p.b, 0, none⟩)], .agg #[.int .i64 kd, .int .i64 s, .int .i64 o, .int .i64 n]] w (OneEnds p r w) := by
  by_cases h1 : kd = 1
  · subst h1; exact one_add p r S s o n w h
  by_cases h2 : kd = 2
  · subst h2; exact one_drop p r S s o n w h
  by_cases h3 : kd = 3
  · subst h3; exact one_has p r S s o n w h
  by_cases h4 : kd = 4
  · subst h4; exact one_count p r S s o n w h
  by_cases h8 : kd = 8
  · subst h8; exact one_quad p r S s o n w h
  by_cases h9 : kd = 9
  · subst h9; exact one_room p r S s o n w h
  exact one_else p r S kd s o n w h h1 h2 h3 h4 h8 h9
set_option maxRecDepth 100000 in
set_option maxHeartbeats 4000000 in
theorem two_else (p : Pr) (r : Nat) (S : Nat → Bool) (qa qb : Option Addr) (kd s o n : Int) (w : World) (h : PairB w p r S) (h5 : kd ≠ 5) (h6 : kd ≠ 6) (h7 : kd ≠ 7) :
    Calls Try.prog 32 #[.agg #[.pointer (some ⟨p.a, 0, none⟩), .pointer (some ⟨p.b, 0, none⟩)], .agg #[.pointer qa, .pointer qb], .agg #[.int .i64 kd, .int .i64 s, .int .i64 o, .int .i64 n]] w (OneEnds p r w) := by
  have FIN : Hid (∀ cs cs' cs'' : Array Value, OneEnds p r w (.returned (.bool true)) (((w.alloc (.cells cs 52)).alloc (.cells cs' 52)).alloc (.cells cs'' 54))) := Mm.hid fun cs cs' cs'' => by
    have bl := (((Below.refl w.heap.size w).alloc (Nat.le_refl _) (.cells cs 52)).alloc (by simp) (.cells cs' 52)).alloc (by simp; omega) (.cells cs'' 54)
    exact ⟨rfl, S, h.below bl, (Fr.of_below bl).mono (fun _ h => h.elim)⟩
  have z5 : (kd == 5) = false := by simpa using h5
  have z6 : (kd == 6) = false := by simpa using h6
  have z7 : (kd == 7) = false := by simpa using h7
  clear h h5 h6 h7
  go_enter Try.func32, Try.ntmps32
  go_wp2
  go_ret
  exact FIN.out _ _ _
theorem two_any (p : Pr) (r : Nat) (S T : Nat → Bool) (qa qb : Option Addr) (kd s o n : Int) (w : World) (h : PairB w p r S) (ho : Oth w p S qa qb T) :
    Calls Try.prog 32 #[.agg #[.pointer (some ⟨p.a, 0, none⟩), .pointer (some ⟨p.b, 0, none⟩)], .agg #[.pointer qa, .pointer qb], .agg #[.int .i64 kd, .int .i64 s, .int .i64 o, .int .i64 n]] w (OneEnds p r w) := by
  by_cases h5 : kd = 5
  · subst h5; exact two_join p r S T qa qb s o n w h ho
  by_cases h6 : kd = 6
  · subst h6; exact two_meet p r S T qa qb s o n w h ho
  by_cases h7 : kd = 7
  · subst h7; exact two_less p r S T qa qb s o n w h ho
  exact two_else p r S qa qb kd s o n w h h5 h6 h7
/-- a pair, and the box that points to it -/
structure Al (w : World) (a g b l h' r : Nat) (S : Nat → Bool) (w1 : World) : Prop where mk ::
  set : SetB w1 a g r S
  ref : RefB l h' w1 b r S
  c0 : w1.cell? ⟨w.heap.size, 0, none⟩ = some (.pointer (some ⟨a, 0, none⟩))
  c1 : w1.cell? ⟨w.heap.size, 1, none⟩ = some (.pointer (some ⟨b, 0, none⟩))
  fr : Fr (fun k => w.heap.size ≤ k ∧ k < w.heap.size) w w1
theorem Al.below {w w1 w2 : World} {a g b l h' r : Nat} {S : Nat → Bool} (h : Al w a g b l h' r S w1) (f : Below w1.heap.size w1 w2) : Al w a g b l h' r S w2 :=
  ⟨h.set.below f, h.ref.below f, (Fr.of_below f).cell h.c0 (fun h => h), (Fr.of_below f).cell h.c1 (fun h => h), h.fr.trans (Fr.of_below f) (fun _ _ h => h.elim)⟩
set_option maxRecDepth 100000 in
set_option maxHeartbeats 8000000 in
theorem alike_any (p : Pr) (r : Nat) (S : Nat → Bool) (w : World) (h : PairB w p r S) :
    Calls Try.prog 33 #[.agg #[.pointer (some ⟨p.a, 0, none⟩), .pointer (some ⟨p.b, 0, none⟩)]] w fun e w' => e = .returned (.bool true) ∧ Below w.heap.size w w' := by
  obtain ⟨a, g, b, l, h', lo, hi⟩ := p
  have bl := (Below.refl w.heap.size w).alloc (Nat.le_refl _) (.cells #[.pointer (some ⟨a, 0, none⟩), .pointer (some ⟨b, 0, none⟩)] 52)
  have s0 := h.set.below bl
  have r0 := h.ref.below bl
  dsimp only at s0 r0
  have q0 := (Fr.of_below bl).mono (T := fun k => w.heap.size ≤ k ∧ k < w.heap.size) (fun _ h => h.elim)
  have k0 : (w.alloc (.cells #[.pointer (some ⟨a, 0, none⟩), .pointer (some ⟨b, 0, none⟩)] 52)).cell? ⟨w.heap.size, 0, none⟩ = some (.pointer (some ⟨a, 0, none⟩)) := (Blk.new w _ 52).cell 0
  have k1 : (w.alloc (.cells #[.pointer (some ⟨a, 0, none⟩), .pointer (some ⟨b, 0, none⟩)] 52)).cell? ⟨w.heap.size, 1, none⟩ = some (.pointer (some ⟨b, 0, none⟩)) := (Blk.new w _ 52).cell 1
  have hm := h.set.most
  clear h bl
  dsimp only
  go_enter Try.func33, Try.ntmps33
  go_upto_region 1 with (fail)
  go_cut [24] from 9 to 24 (fun t wc => t = .bool false ∧ Hid (Al w a g b l h' r S wc))
  case first =>
    go_region_held3 (fun w' => w'.cell? ⟨w.heap.size, 0, none⟩ = some (.pointer (some ⟨a, 0, none⟩)) ∧ w'.cell? ⟨w.heap.size, 1, none⟩ = some (.pointer (some ⟨b, 0, none⟩))) (go_keep)
      (first | (go_at_call 10; refine (room_b a g r S _ (by first | assumption | (apply SetB.drew; assumption))).mono ?_; rintro e w1 ⟨rfl, f1⟩; have c0 := (Fr.of_below f1).cell (p := ⟨w.heap.size, 0, none⟩) (v := .pointer (some ⟨a, 0, none⟩)) (by first | assumption | simp [*]) (fun h => h); have c1 := (Fr.of_below f1).cell (p := ⟨w.heap.size, 1, none⟩) (v := .pointer (some ⟨b, 0, none⟩)) (by first | assumption | simp [*]) (fun h => h); have s1 := SetB.below (h := by first | assumption | (apply SetB.drew; assumption)) (f := f1); have r1 := RefB.below (h := by first | assumption | (apply RefB.drew; assumption)) (f := f1); have q1 := frnext (by first | assumption | (apply Fr.drewr; assumption)) (Fr.of_below f1) (fun k h => h.elim)) | (go_at_call 54; refine (rroom_b l h' b r S _ (by first | assumption | (apply RefB.drew; assumption))).mono ?_; rintro e w1 ⟨rfl, f1⟩; have c0 := (Fr.of_below f1).cell (p := ⟨w.heap.size, 0, none⟩) (v := .pointer (some ⟨a, 0, none⟩)) (by first | assumption | simp [*]) (fun h => h); have c1 := (Fr.of_below f1).cell (p := ⟨w.heap.size, 1, none⟩) (v := .pointer (some ⟨b, 0, none⟩)) (by first | assumption | simp [*]) (fun h => h); have s1 := SetB.below (h := by first | assumption | (apply SetB.drew; assumption)) (f := f1); have r1 := RefB.below (h := by first | assumption | (apply RefB.drew; assumption)) (f := f1); have q1 := frnext (by first | assumption | (apply Fr.drewr; assumption)) (Fr.of_below f1) (fun k h => h.elim)) | (go_at_call 15; refine (count_b a g r S _ (by first | assumption | (apply SetB.drew; assumption))).mono ?_; rintro e w1 ⟨rfl, f1⟩; have c0 := (Fr.of_below f1).cell (p := ⟨w.heap.size, 0, none⟩) (v := .pointer (some ⟨a, 0, none⟩)) (by first | assumption | simp [*]) (fun h => h); have c1 := (Fr.of_below f1).cell (p := ⟨w.heap.size, 1, none⟩) (v := .pointer (some ⟨b, 0, none⟩)) (by first | assumption | simp [*]) (fun h => h); have s1 := SetB.below (h := by first | assumption | (apply SetB.drew; assumption)) (f := f1); have r1 := RefB.below (h := by first | assumption | (apply RefB.drew; assumption)) (f := f1); have q1 := frnext (by first | assumption | (apply Fr.drewr; assumption)) (Fr.of_below f1) (fun k h => h.elim)) | (go_at_call 53; refine (rcount_any l h' b r S _ (by first | assumption | (apply RefB.drew; assumption))).mono ?_; rintro e w1 ⟨rfl, f1⟩; have c0 := (Fr.of_below f1).cell (p := ⟨w.heap.size, 0, none⟩) (v := .pointer (some ⟨a, 0, none⟩)) (by first | assumption | simp [*]) (fun h => h); have c1 := (Fr.of_below f1).cell (p := ⟨w.heap.size, 1, none⟩) (v := .pointer (some ⟨b, 0, none⟩)) (by first | assumption | simp [*]) (fun h => h); have s1 := SetB.below (h := by first | assumption | (apply SetB.drew; assumption)) (f := f1); have r1 := RefB.below (h := by first | assumption | (apply RefB.drew; assumption)) (f := f1); have q1 := frnext (by first | assumption | (apply Fr.drewr; assumption)) (Fr.of_below f1) (fun k h => h.elim)))
    all_goals
      have A1 : Hid (Al w a g b l h' r S w1) := Mm.hid ⟨s1, r1, c0, c1, q1⟩
      clear s1 r1 c0 c1 q1
      go_wp2_with fail
      go_meet
      exact ⟨rfl, A1.out⟩
  case rest =>
    obtain ⟨rfl, A1⟩ := hcut
    clear s0 r0 q0 k0 k1
    rename_i wc
    go_wp2_with fail
    go_loopw [3] (fun i wr => ∃ k : Nat, k ≤ r + 2 ∧ i = .int .i64 ((k : Int) - 1) ∧ Hid (Al w a g b l h' r S wr)) (fun i _ => r + 2 - (intOf i + 1).toNat)
    case atStart => exact ⟨0, by omega, rfl, A1.out⟩
    case round =>
      obtain ⟨k, hk, rfl, HK⟩ := hrel
      clear A1
      have c1 := HK.out.c1
      by_cases hlt : k < r + 2
      · go_wp2_with fail
        refine (rroom_any l h' b r S _ HK.out.ref).mono ?_
        rintro e w' ⟨rfl, rfl⟩
        have c0 := HK.out.c0
        have s1 := HK.out.set
        have r1 := HK.out.ref
        have q1 := HK.out.fr
        obtain ⟨x, hx⟩ : ∃ x, hasB r S ((k : Int) - 1) = x := ⟨_, rfl⟩
        have HX := Mm.hid hx
        clear hx
        go_wp2_with fail
        go_region_held3 (fun w' => w'.cell? ⟨w.heap.size, 0, none⟩ = some (.pointer (some ⟨a, 0, none⟩)) ∧ w'.cell? ⟨w.heap.size, 1, none⟩ = some (.pointer (some ⟨b, 0, none⟩))) (go_keep)
          (first | (go_at_call 12; refine (has_b a g r S _ _ (by first | assumption | (apply SetB.drew; assumption))).mono ?_; rintro e w1 ⟨rfl, f1⟩; have c0 := (Fr.of_below f1).cell (p := ⟨w.heap.size, 0, none⟩) (v := .pointer (some ⟨a, 0, none⟩)) (by first | assumption | simp [*]) (fun h => h); have c1 := (Fr.of_below f1).cell (p := ⟨w.heap.size, 1, none⟩) (v := .pointer (some ⟨b, 0, none⟩)) (by first | assumption | simp [*]) (fun h => h); have s1 := SetB.below (h := by first | assumption | (apply SetB.drew; assumption)) (f := f1); have r1 := RefB.below (h := by first | assumption | (apply RefB.drew; assumption)) (f := f1); have q1 := frnext (by first | assumption | (apply Fr.drewr; assumption)) (Fr.of_below f1) (fun k h => h.elim)) | (go_at_call 52; refine (rhas_b l h' b r S _ _ (by first | assumption | (apply RefB.drew; assumption))).mono ?_; rintro e w1 ⟨rfl, f1⟩; have c0 := (Fr.of_below f1).cell (p := ⟨w.heap.size, 0, none⟩) (v := .pointer (some ⟨a, 0, none⟩)) (by first | assumption | simp [*]) (fun h => h); have c1 := (Fr.of_below f1).cell (p := ⟨w.heap.size, 1, none⟩) (v := .pointer (some ⟨b, 0, none⟩)) (by first | assumption | simp [*]) (fun h => h); have s1 := SetB.below (h := by first | assumption | (apply SetB.drew; assumption)) (f := f1); have r1 := RefB.below (h := by first | assumption | (apply RefB.drew; assumption)) (f := f1); have q1 := frnext (by first | assumption | (apply Fr.drewr; assumption)) (Fr.of_below f1) (fun k h => h.elim)))
        all_goals
          have A2 : Hid (Al w a g b l h' r S w1) := Mm.hid ⟨s1, r1, c0, c1, q1⟩
          clear s1 r1 c0 c1 q1
          go_wp2
          go_roundw
          case rel => exact ⟨k + 1, by omega, by go_num, A2.out⟩
          case measure => simp [intOf]; omega
      · have hkn : k = r + 2 := by omega
        subst hkn
        go_wp2_with fail
        refine (rroom_any l h' b r S _ HK.out.ref).mono ?_
        rintro e w' ⟨rfl, rfl⟩
        clear c1
        go_wp2_with fail
        clear hlt hk
        go_loopw [4] (fun i wr => ∃ k : Nat, k ≤ (r + 512) / 256 + 1 ∧ i = .int .i64 ((k : Int) - 1) ∧ Hid (Al w a g b l h' r S wr)) (fun i _ => (r + 512) / 256 + 1 - (intOf i + 1).toNat)
        case atStart => exact ⟨0, by omega, rfl, HK.out⟩
        case round =>
          obtain ⟨j, hj, rfl, HJ⟩ := hrel
          clear HK
          have c1 := HJ.out.c1
          go_wp2_with fail
          refine (rroom_any l h' b r S _ HJ.out.ref).mono ?_
          rintro e w' ⟨rfl, rfl⟩
          by_cases hlt2 : j ≤ (r + 512) / 256
          · have hle : 256 * ((j : Int) - 1) ≤ (r : Int) + 256 := by omega
            have c0 := HJ.out.c0
            obtain ⟨x0, x1, x2, x3, ok, hq⟩ := quad_is r S ((j : Int) - 1)
            have HQ := Mm.hid hq
            clear hq
            go_wp2_with fail
            refine (quad_any a g r S _ _ HJ.out.set).mono ?_
            rintro e w2 ⟨rfl, b2⟩
            rw [HQ.out]
            have J2 : Hid (Al w a g b l h' r S w2) := Mm.hid (HJ.out.below b2)
            clear b2 c0 c1
            have J3 : Hid (Al w a g b l h' r S (w2.alloc (.cells #[.int .u64 x0, .int .u64 x1, .int .u64 x2, .int .u64 x3] 64))) := Mm.hid (J2.out.below ((Below.refl _ _).alloc (Nat.le_refl _) _))
            have c1 := J3.out.c1
            go_wp2_with fail
            refine (rquad_any l h' b r S _ _ J3.out.ref).mono ?_
            rintro e w3 ⟨rfl, b3⟩
            rw [HQ.out]
            have d0 : w3.cell? ⟨w2.heap.size, 0, none⟩ = some (.int .u64 x0) := (Fr.of_below b3).cell ((Blk.new w2 _ 64).cell 0) (fun h => h)
            have d1 : w3.cell? ⟨w2.heap.size, 1, none⟩ = some (.int .u64 x1) := (Fr.of_below b3).cell ((Blk.new w2 _ 64).cell 1) (fun h => h)
            have d2 : w3.cell? ⟨w2.heap.size, 2, none⟩ = some (.int .u64 x2) := (Fr.of_below b3).cell ((Blk.new w2 _ 64).cell 2) (fun h => h)
            have d3 : w3.cell? ⟨w2.heap.size, 3, none⟩ = some (.int .u64 x3) := (Fr.of_below b3).cell ((Blk.new w2 _ 64).cell 3) (fun h => h)
            have hsz2 : w2.heap.size < w3.heap.size := World.block_lt_of_cell? w3 ⟨w2.heap.size, 0, none⟩ d0
            have J4 : Hid (Al w a g b l h' r S (w3.alloc (.cells #[.int .u64 x0, .int .u64 x1, .int .u64 x2, .int .u64 x3] 64))) := Mm.hid ((J3.out.below b3).below ((Below.refl _ _).alloc (Nat.le_refl _) _))
            have e64 := eq64_same x0 x1 x2 x3
            clear b3 c1
            go_wp2
            go_roundw
            case rel => exact ⟨j + 1, by omega, by go_num, J4.out⟩
            case measure => simp [intOf]; omega
          · have hgt : ¬ 256 * ((j : Int) - 1) ≤ (r : Int) + 256 := by omega
            go_wp2
            go_ret
            exact ⟨rfl, HJ.out.fr.below (fun k hk => by omega) (Nat.le_refl _)⟩
end Go.Proofs.Ytdfdicmbfgkekaa

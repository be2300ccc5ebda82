/- Boards of counters: joined, picked, asked. -/
import Derived.Test.YtecppnkfnppmoaaSys
import Derived.Deep.CutRange
namespace Go.Proofs.Ytecppnkfnppmoaa
open Go.RowKit Go.Mm
/-- a seat: its machine, and when it ended -/
def fSt (s : Value × Int) : List Value := [s.1, .int .i64 s.2]
theorem fSt_len (s : Value × Int) : (fSt s).length = 2 := rfl
theorem info89 : (Try.prog.info? 89).map (fun i => (i.zero, i.size, i.bytes)) = some (some (.agg #[.nilIface, .int .i64 0]), 2, 24) := by kernel_rfl
theorem own_sets {w : World} {base e n c k sz : Nat} {xs : List Value} (h : w.ownsRow base e sz (.slice (some ⟨n, 0, none⟩) c k) c xs) (j : Nat) (u : Value) : (w.setCell ⟨n, j, none⟩ u).ownsRow base e sz (.slice (some ⟨n, 0, none⟩) c k) c (xs.set j u) := by
  rcases h.2 with ⟨h0, _⟩ | ⟨g, cap, cur, hv, hb, hg, hnc, hcm, hcs, ht⟩
  · cases h0
  · injection hv with h1 h2 h3
    injection h1 with h1
    injection h1 with h1
    subst h1
    subst h3
    refine ⟨by rw [List.length_set]; exact h.1, .inr ⟨n, k, cur.setIfInBounds j u, rfl, hb, ?_, hnc, hcm, by simpa using hcs, ?_⟩⟩
    · have := (show Blk w n e cur from hg).set j u
      exact this
    · rw [← ht, Array.toList_setIfInBounds, List.take_set]
theorem set_st : ∀ {ss : List (Value × Int)} {i : Nat} {m : Value} {e : Int} (t : Int), ss[i]? = some (m, e) → (ss.flatMap fSt).set (i * 2 + 1) (.int .i64 t) = (ss.set i (m, t)).flatMap fSt
  | [], i, m, e, t, h => by simp at h
  | s :: ss, 0, m, e, t, h => by
    simp at h
    subst h
    rfl
  | s :: ss, i + 1, m, e, t, h => by
    have ih := set_st (ss := ss) (i := i) t (by simpa using h)
    rw [List.set_cons_succ, List.flatMap_cons, List.flatMap_cons, ← ih, show (i + 1) * 2 + 1 = i * 2 + 1 + 1 + 1 from by omega]
    rfl
/-- a board in memory -/
structure BoB (base bb n : Nat) (v : Value) (now : Int) (ss : List (Value × Int)) (w : World) : Prop where
  blk : Blk w bb 75 #[v, .int .i64 now]
  row : w.ownsRow base 89 2 v n (ss.flatMap fSt)
  len : ss.length = n
theorem new_any (w : World) : Calls Try.prog 26 #[] w (NewEnds 75 #[.slice none 0 0, .int .i64 0] w) := by
  go_enter Try.func26, Try.ntmps26
  go_wp2_with fail
  go_ret
  exact ⟨rfl, rfl⟩
/-- the machine that a counter is -/
def cMac (g : Nat) : Value := .iface 28 (.pointer (some ⟨g, 0, none⟩))
theorem mac_one (g : Nat) (x : Int) : ∀ u ∈ (#[.iface 28 (.pointer (some ⟨g, 0, none⟩)), .int .i64 x] : Array Value).toList, u.oneCell' = true := by
  intro u hu
  simp at hu
  rcases hu with rfl | rfl <;> rfl
/-- a board of counters after a call -/
def BoE (base bb n : Nat) (v : Value) (now : Int) (ss : List (Value × Int)) (r : Value) (w : World) (e : Ending) (w' : World) : Prop :=
  ∃ v1, e = .returned r ∧ Hid (BoB base bb n v1 now ss w' ∧ (v1.ownBlock = v.ownBlock ∨ ∃ b, v1.ownBlock = some b ∧ w.heap.size ≤ b) ∧ Fr (fun k => k = bb ∨ v.ownBlock = some k) w w')
set_option maxRecDepth 100000 in
set_option maxHeartbeats 1000000 in
theorem join_any (base bb n g : Nat) (v : Value) (now : Int) (ss : List (Value × Int)) (w : World) (h : BoB base bb n v now ss w) (hB : base ≤ w.heap.size) (hn : n < 64) :
    Calls Try.prog 33 #[.pointer (some ⟨bb, 0, none⟩), .iface 28 (.pointer (some ⟨g, 0, none⟩))] w (BoE base bb (n + 1) v now (ss ++ [(.iface 28 (.pointer (some ⟨g, 0, none⟩)), -1)]) (.tuple #[.int .i64 (n : Nat), .int .i64 0]) w) := by
  have H := Mm.hid h
  obtain ⟨A, c, rfl, hc, _, _⟩ := own_slice h.row
  have e0 : w.cell? ⟨bb, 0, none⟩ = some (.slice A n c) := H.out.blk.cell 0
  have f0 := Fr.alloc (fun _ => False) w (.cells #[.iface 28 (.pointer (some ⟨g, 0, none⟩)), .int .i64 (-1)] 89)
  have HO := Mm.hid (mac_one g (-1))
  have OR := Mm.hid h.row
  have HLn : Hid ((n + 1) * 24 ≤ 140737488355328) := by show _ ≤ _; omega
  clear h
  go_enter Try.func33, Try.ntmps33
  go_wp2_with (at_builtin; go_must (refine wp_ape1 base rfl _ _ 73 89 (.agg #[.nilIface, .int .i64 0]) 2 24 #[.iface 28 (.pointer (some ⟨g, 0, none⟩)), .int .i64 (-1)] rfl Try.underlying73 info89 rfl (by decide) (by decide) (.slice A n c) n _ rfl rfl rfl HO.out (by exact OR.out) (Below.refl _ _) hB HLn.out ?_; intro v1 w1 k1 k2 k3 k4; obtain ⟨A1, c1, hv, hc1, _, _⟩ := own_slice k1; subst hv; have f1 : Fr (fun k => (Value.slice A n c).ownBlock = some k) w w1 := Fr.grown k3; have BW := f1.blk H.out.blk (fun e => own_ne OR.out H.out.blk (by decide) e); have e1 : w1.frozen? ⟨bb, 0, none⟩ = false := BW.free 0; have e2 : w1.cell? ⟨bb, 0, none⟩ = some (.slice A n c) := BW.cell 0; have K1 := Mm.hid k1; have K4 := Mm.hid k4; have F1 := Mm.hid f1; have BWH := Mm.hid BW; clear k1 k2 k3 k4 f1 BW))
  have f3 := Fr.setCell w1 ⟨bb, 0, none⟩ (.slice A1 (n + 1) c1)
  have fin : Hid (BoB base bb (n + 1) (.slice A1 (n + 1) c1) now (ss ++ [(.iface 28 (.pointer (some ⟨g, 0, none⟩)), -1)]) (w1.setCell ⟨bb, 0, none⟩ (.slice A1 (n + 1) c1)) ∧ ((Value.slice A1 (n + 1) c1).ownBlock = (Value.slice A n c).ownBlock ∨ ∃ b, (Value.slice A1 (n + 1) c1).ownBlock = some b ∧ w.heap.size ≤ b) ∧ Fr (fun k => k = bb ∨ (Value.slice A n c).ownBlock = some k) w (w1.setCell ⟨bb, 0, none⟩ (.slice A1 (n + 1) c1))) := by
    refine ⟨⟨BWH.out.set 0 (.slice A1 (n + 1) c1), ?_, by simp [H.out.len]⟩, ?_, (F1.out.mono fun _ h => .inr h).trans f3 fun _ _ h => .inl h⟩
    · rw [List.flatMap_append]
      exact f3.own K1.out fun b hb (e : b = bb) => own_ne K1.out BWH.out (by decide) (e ▸ hb)
    · rcases K4.out with h | ⟨b, h, h', _⟩
      · exact .inl h
      · exact .inr ⟨b, h, h'⟩
  clear f3 f0 e0 e1 e2
  go_ret2
  exact ⟨_, rfl, fin⟩
/-- an element of a board's row -/
theorem BoB.at {base bb n i : Nat} {v m : Value} {now e : Int} {ss : List (Value × Int)} {w : World} (h : BoB base bb n v now ss w) (hs : ss[i]? = some (m, e)) : ∃ g c, v = .slice (some ⟨g, 0, none⟩) n c ∧ n ≤ c ∧ w.cell? ⟨g, i * 2, none⟩ = some m ∧ w.cell? ⟨g, i * 2 + 1, none⟩ = some (.int .i64 e) ∧ w.frozen? ⟨g, i * 2 + 1, none⟩ = false := by
  have hi := (List.getElem?_eq_some_iff.1 hs).1
  have hl := h.len
  obtain ⟨g, c, hv, hc, _, _, hcell, hfree⟩ := own_blk h.row (by omega)
  exact ⟨g, c, hv, hc, hcell _ _ (by rw [show i * 2 = i * 2 + 0 from rfl, flatMap_at fSt_len hs (by decide)]; rfl), hcell _ _ (by rw [flatMap_at fSt_len hs (by decide)]; rfl), hfree _⟩
theorem BoB.tick {base bb n : Nat} {v : Value} {now : Int} {ss : List (Value × Int)} {w : World} (h : BoB base bb n v now ss w) (t : Int) : BoB base bb n v t ss (w.setCell ⟨bb, 1, none⟩ (.int .i64 t)) ∧ Fr (fun k => k = bb) w (w.setCell ⟨bb, 1, none⟩ (.int .i64 t)) := by
  have f := Fr.setCell w ⟨bb, 1, none⟩ (.int .i64 t)
  exact ⟨⟨h.blk.set 1 (.int .i64 t), f.own h.row fun b hb (e : b = bb) => own_ne h.row h.blk (by decide) (e ▸ hb), h.len⟩, f⟩
set_option maxRecDepth 100000 in
set_option maxHeartbeats 1000000 in
theorem pick_no (base bb n i : Nat) (v m : Value) (now e : Int) (ss : List (Value × Int)) (w : World) (h : BoB base bb n v now ss w) (hs : ss[i]? = some (m, e)) (he : 0 ≤ e) (h0 : 0 ≤ now) (h1 : now < 4611686018427387904) :
    Calls Try.prog 34 #[.pointer (some ⟨bb, 0, none⟩), .int .i64 (i : Nat)] w (BoE base bb n v (now + 1) ss (.bool false) w) := by
  have H := Mm.hid h
  obtain ⟨g, c, rfl, hc, c0, c1, _⟩ := h.at hs
  have hi : i < n := by have := (List.getElem?_eq_some_iff.1 hs).1; have := h.len; omega
  have e0 : w.cell? ⟨bb, 0, none⟩ = some (.slice (some ⟨g, 0, none⟩) n c) := H.out.blk.cell 0
  have e1 : w.cell? ⟨bb, 1, none⟩ = some (.int .i64 now) := H.out.blk.cell 1
  have e2 : w.frozen? ⟨bb, 1, none⟩ = false := H.out.blk.free 1
  have hgb : g ≠ bb := fun e => own_ne H.out.row H.out.blk (by decide) (e ▸ rfl)
  have hw : IntKind.i64.wrap (now + 1) = now + 1 := IntWalk.i64_in _ (by omega)
  have hi0 : ¬ (i : Int) < 0 := by omega
  have hin : ¬ (n : Int) ≤ (i : Int) := by omega
  clear h hs
  go_enter Try.func34, Try.ntmps34
  go_wp2_with fail
  have fin := Mm.hid (H.out.tick (now + 1))
  clear e0 e1 e2 c0 c1
  go_ret
  exact ⟨_, rfl, fin.out.1, .inl rfl, fin.out.2.mono fun _ h => .inl h⟩
/-- a step was made: what it did, and the board behind it -/
def PickE (base bb n i gc : Nat) (v : Value) (now : Int) (ss : List (Value × Int)) (R : Bool → World → World → Prop) (w : World) (e : Ending) (w' : World) : Prop :=
  ∃ b w1 w2, e = .returned (.bool true) ∧ Hid (Fr (fun k => k = bb) w w1 ∧ R b w1 w2 ∧ Fr (fun k => v.ownBlock = some k) w2 w' ∧ BoB base bb n v (now + 1) (if b = true then ss.set i (.iface 28 (.pointer (some ⟨gc, 0, none⟩)), now) else ss) w')
theorem meth20 (gc : Nat) (w : World) : (method 212 28 (.pointer (some ⟨gc, 0, none⟩)) "Step").run Try.prog w = .ok (20, .pointer (some ⟨gc, 0, none⟩)) w := by kernel_rfl
set_option maxRecDepth 100000 in
set_option maxHeartbeats 2000000 in
theorem pick_yes (base bb n i gc : Nat) (v : Value) (now : Int) (ss : List (Value × Int)) (w : World) (R : Bool → World → World → Prop) (h : BoB base bb n v now ss w) (hs : ss[i]? = some (.iface 28 (.pointer (some ⟨gc, 0, none⟩)), -1)) (h0 : 0 ≤ now) (h1 : now < 4611686018427387904)
    (hc : ∀ w1, Fr (fun k => k = bb) w w1 → Calls Try.prog 20 #[.pointer (some ⟨gc, 0, none⟩), .int .i64 now] w1 fun e w2 => ∃ b, e = .returned (.bool b) ∧ Hid (R b w1 w2))
    (hR : ∀ b w1 w2, R b w1 w2 → Fr (fun k => k ≠ bb ∧ v.ownBlock ≠ some k) w1 w2) :
    Calls Try.prog 34 #[.pointer (some ⟨bb, 0, none⟩), .int .i64 (i : Nat)] w (PickE base bb n i gc v now ss R w) := by
  have H := Mm.hid h
  obtain ⟨g, c, rfl, hcn, c0, c1, _⟩ := h.at hs
  have hi : i < n := by have := (List.getElem?_eq_some_iff.1 hs).1; have := h.len; omega
  have e0 : w.cell? ⟨bb, 0, none⟩ = some (.slice (some ⟨g, 0, none⟩) n c) := H.out.blk.cell 0
  have e1 : w.cell? ⟨bb, 1, none⟩ = some (.int .i64 now) := H.out.blk.cell 1
  have e2 : w.frozen? ⟨bb, 1, none⟩ = false := H.out.blk.free 1
  have hgb : g ≠ bb := fun e => own_ne H.out.row H.out.blk (by decide) (e ▸ rfl)
  have hw : IntKind.i64.wrap (now + 1) = now + 1 := IntWalk.i64_in _ (by omega)
  have hi0 : ¬ (i : Int) < 0 := by omega
  have hin : ¬ (n : Int) ≤ (i : Int) := by omega
  have HC := Mm.hid hc
  have HR := Mm.hid hR
  have HS := Mm.hid hs
  have TK := Mm.hid (H.out.tick (now + 1))
  clear h hs hc hR
  go_enter Try.func34, Try.ntmps34
  have hm := meth20 gc
  have LC := Mm.hid (HC.out _ TK.out.2)
  clear e0 e1 e2 c0 c1
  have e0 : w.cell? ⟨bb, 0, none⟩ = some (.slice (some ⟨g, 0, none⟩) n c) := H.out.blk.cell 0
  have e1 : w.cell? ⟨bb, 1, none⟩ = some (.int .i64 now) := H.out.blk.cell 1
  have e2 : w.frozen? ⟨bb, 1, none⟩ = false := H.out.blk.free 1
  obtain ⟨g', c', hv', _, c0, c1, _⟩ := H.out.at HS.out
  injection hv' with x1 _ x3
  injection x1 with x1
  injection x1 with x1
  subst x1
  subst x3
  clear hcn
  go_upto_if 48 with (go_at_call 20; refine LC.out.mono ?_; rintro e w2 ⟨b, rfl, hRr⟩)
  have FR := HR.out _ _ _ hRr.out
  have B2 := FR.blk TK.out.1.blk (fun h => h.1 rfl)
  have O2 := FR.own TK.out.1.row (fun k hk h => h.2 hk)
  have P2 : Hid (BoB base bb n (.slice (some ⟨g, 0, none⟩) n c) (now + 1) ss w2) := ⟨B2, O2, TK.out.1.len⟩
  have d0 : w2.cell? ⟨bb, 0, none⟩ = some (.slice (some ⟨g, 0, none⟩) n c) := B2.cell 0
  obtain ⟨g', c', hv', _, _, d1, d2⟩ := P2.out.at HS.out
  injection hv' with x1 _ x3
  injection x1 with x1
  injection x1 with x1
  subst x1
  subst x3
  clear FR B2 O2 e0 e1 e2 c0 c1 LC
  cases b
  · have fin : Hid (Fr (fun k => k = bb) w (w.setCell ⟨bb, 1, none⟩ (.int .i64 (now + 1))) ∧ R false (w.setCell ⟨bb, 1, none⟩ (.int .i64 (now + 1))) w2 ∧ Fr (fun k => (Value.slice (some ⟨g, 0, none⟩) n c).ownBlock = some k) w2 w2 ∧ BoB base bb n (.slice (some ⟨g, 0, none⟩) n c) (now + 1) ss w2) := ⟨TK.out.2, hRr.out, Fr.refl _ _, P2.out⟩
    go_wp2_with fail
    go_ret
    exact ⟨false, _, _, rfl, fin⟩
  · have fs := Fr.setCell w2 ⟨g, i * 2 + 1, none⟩ (.int .i64 now)
    have fin : Hid (Fr (fun k => k = bb) w (w.setCell ⟨bb, 1, none⟩ (.int .i64 (now + 1))) ∧ R true (w.setCell ⟨bb, 1, none⟩ (.int .i64 (now + 1))) w2 ∧ Fr (fun k => (Value.slice (some ⟨g, 0, none⟩) n c).ownBlock = some k) w2 (w2.setCell ⟨g, i * 2 + 1, none⟩ (.int .i64 now)) ∧ BoB base bb n (.slice (some ⟨g, 0, none⟩) n c) (now + 1) (ss.set i (.iface 28 (.pointer (some ⟨gc, 0, none⟩)), now)) (w2.setCell ⟨g, i * 2 + 1, none⟩ (.int .i64 now))) := by
      refine ⟨TK.out.2, hRr.out, fs.mono fun k e => by rw [e]; rfl, ⟨fs.blk P2.out.blk fun e => hgb e.symm, ?_, by simp [P2.out.len]⟩⟩
      have := own_sets P2.out.row (i * 2 + 1) (.int .i64 now)
      rw [set_st now HS.out] at this
      exact this
    clear fs
    go_wp2_with fail
    go_ret
    exact ⟨true, _, _, rfl, fin⟩
set_option maxRecDepth 100000 in
theorem ended_any (base bb n i : Nat) (v m : Value) (now e : Int) (ss : List (Value × Int)) (w : World) (h : BoB base bb n v now ss w) (hs : ss[i]? = some (m, e)) :
    Calls Try.prog 35 #[.pointer (some ⟨bb, 0, none⟩), .int .i64 (i : Nat)] w fun r w' => r = .returned (.int .i64 e) ∧ w' = w := by
  have H := Mm.hid h
  obtain ⟨g, c, rfl, hc, c0, c1, _⟩ := h.at hs
  have hi : i < n := by have := (List.getElem?_eq_some_iff.1 hs).1; have := h.len; omega
  have e0 : w.cell? ⟨bb, 0, none⟩ = some (.slice (some ⟨g, 0, none⟩) n c) := H.out.blk.cell 0
  have hi0 : ¬ (i : Int) < 0 := by omega
  have hin : ¬ (n : Int) ≤ (i : Int) := by omega
  clear h hs
  go_enter Try.func35, Try.ntmps35
  go_wp2_with fail
  go_ret
  exact ⟨rfl, rfl⟩
theorem now_any (base bb n : Nat) (v : Value) (now : Int) (ss : List (Value × Int)) (w : World) (h : BoB base bb n v now ss w) :
    Calls Try.prog 36 #[.pointer (some ⟨bb, 0, none⟩)] w fun r w' => r = .returned (.int .i64 now) ∧ w' = w := by
  have e1 : w.cell? ⟨bb, 1, none⟩ = some (.int .i64 now) := h.blk.cell 1
  clear h
  go_enter Try.func36, Try.ntmps36
  go_wp2_with fail
  go_ret
  exact ⟨rfl, rfl⟩
end Go.Proofs.Ytecppnkfnppmoaa

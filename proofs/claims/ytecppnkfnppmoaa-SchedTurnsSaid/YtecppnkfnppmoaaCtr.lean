/- Walks: counters, the program's and the document's. -/
import Derived.Test.YtecppnkfnppmoaaApart
namespace Go.Proofs.Ytecppnkfnppmoaa
open Go.RowKit Go.Mm
/-- the program's counter, in memory -/
def CtrB (w : World) (g : Nat) (last : Int) (v : Value) : Prop := Blk w g 72 #[.int .i64 last, v]
/-- the document's machine -/
def MachB (w : World) (g : Nat) (last : Int) (no : Bool) (v : Value) : Prop := Blk w g 35 #[.int .i64 last, .bool no, v]
def mx1 (n : Int) : Int := if n < 1 then 1 else n
theorem mx1_pos (n : Int) : 1 ≤ mx1 n := by unfold mx1; split <;> omega
def NewEnds (t : TypeId) (cs : Array Value) (w : World) (e : Ending) (w' : World) : Prop := e = .returned (.pointer (some ⟨w.heap.size, 0, none⟩)) ∧ w' = w.alloc (.cells cs t)
theorem newctr_any (n : Int) (w : World) : Calls Try.prog 17 #[.int .i64 n] w (NewEnds 72 #[.int .i64 (mx1 n), .slice none 0 0] w) := by
  unfold mx1
  by_cases h : n < 1
  · rw [if_pos h]
    go_enter Try.func17, Try.ntmps17
    go_wp2
    go_ret
    exact ⟨rfl, rfl⟩
  · rw [if_neg h]
    go_enter Try.func17, Try.ntmps17
    go_wp2
    go_ret
    exact ⟨rfl, rfl⟩
theorem newmach_any (n : Int) (w : World) : Calls Try.prog 18 #[.int .i64 n] w (NewEnds 35 #[.int .i64 (mx1 n), .bool false, .slice none 0 0] w) := by
  unfold mx1
  by_cases h : n < 1
  · rw [if_pos h]
    go_enter Try.func18, Try.ntmps18
    go_wp2
    go_ret
    exact ⟨rfl, rfl⟩
  · rw [if_neg h]
    go_enter Try.func18, Try.ntmps18
    go_wp2
    go_ret
    exact ⟨rfl, rfl⟩
/-- what a step leaves: the struct, and its row -/
def StepEnds (t : TypeId) (cs : Value → Array Value) (base g : Nat) (v : Value) (ts' : List Int) (b : Bool) (w : World) (e : Ending) (w' : World) : Prop :=
  e = .returned (.bool b) ∧ ∃ v1, Blk w' g t (cs v1) ∧ w'.ownsRow base 3 1 v1 ts'.length (iL ts') ∧ (v1.ownBlock = v.ownBlock ∨ ∃ b, v1.ownBlock = some b ∧ w.heap.size ≤ b) ∧ Fr (fun k => k = g ∨ v.ownBlock = some k) w w'
theorem own_setOther {w : World} {base e sz n : Nat} {v : Value} {xs : List Value} (h : w.ownsRow base e sz v n xs) {p : Addr} (hp : v.ownBlock ≠ some p.block) (u : Value) : (w.setCell p u).ownsRow base e sz v n xs :=
  (Fr.setCell w p u).own h fun b hb (hb' : b = p.block) => hp (by rw [hb, hb'])
/-- a counter's step that notes -/
theorem ctr_step_notes (base g : Nat) (last now : Int) (v : Value) (ts : List Int) (n : Nat) (w : World) (h : CtrB w g last v) (hl : ts.length = n) (ho : w.ownsRow base 3 1 v n (iL ts)) (hB : base ≤ w.heap.size) (hlt : (n : Int) < last) (hn : (n + 1) * 8 ≤ 140737488355328) :
    Calls Try.prog 20 #[.pointer (some ⟨g, 0, none⟩), .int .i64 now] w (StepEnds 72 (fun v => #[.int .i64 last, v]) base g v (ts ++ [now]) (decide ((n : Int) + 1 = last)) w) := by
  obtain ⟨A, c, rfl, hc, _, _⟩ := own_slice ho
  have OR : Hid (w.ownsRow base 3 1 (.slice A n c) n (iL ts)) := ho
  have H : Hid (Blk w g 72 #[.int .i64 last, .slice A n c]) := h
  have L1 : Hid ((ts ++ [now]).length = n + 1) := by simp [Hid, hl]
  have c0 : w.cell? ⟨g, 0, none⟩ = some (.int .i64 last) := H.out.cell 0
  have c1 : w.cell? ⟨g, 1, none⟩ = some (.slice A n c) := H.out.cell 1
  have c2 := H.out.lt
  clear ho h hl
  have hone : ∀ u ∈ (#[Value.int .i64 now] : Array Value).toList, u.oneCell' = true := by simp; rfl
  have HO := Mm.hid hone
  clear hone
  go_enter Try.func20, Try.ntmps20
  go_wp2_with fail
  go_quiet (fail)
  rename_i nq
  have OR' : Hid ((w.drewN nq).ownsRow base 3 1 (.slice A n c) n (iL ts)) := (Fr.drewN (fun _ => False) w nq).own OR.out fun _ _ h => h
  go_wp2_with (at_builtin; go_must (refine wp_ape1 base rfl _ _ 22 3 (.int .i64 0) 1 8 #[.int .i64 now] rfl Try.underlying22 info3 rfl (by decide) (by decide) (.slice A n c) n _ rfl rfl rfl HO.out (by exact OR'.out) (Below.refl _ _) hB hn ?_))
  intro v1 w1 k1 k2 k3 k4
  have hne := own_ne OR.out H.out (by decide)
  have hb1 : Blk w1 g 72 #[.int .i64 last, .slice A n c] := H.out.keep (k3.block g c2 (fun e => hne e.symm))
  have d0 : w1.cell? ⟨g, 0, none⟩ = some (.int .i64 last) := hb1.cell 0
  have d1 : w1.cell? ⟨g, 1, none⟩ = some (.slice A n c) := hb1.cell 1
  have d2 : w1.frozen? ⟨g, 1, none⟩ = false := hb1.free 1
  have K1 := Mm.hid k1
  have K3 := Mm.hid k3
  have K4 := Mm.hid k4
  have HB1 := Mm.hid hb1
  clear k1 k2 k3 k4 hb1 hne c0 c1 c2 OR'
  obtain ⟨A1, c1, hv, _⟩ := own_slice K1.out
  subst hv
  have fin : ∀ d : Nat, StepEnds 72 (fun v => #[.int .i64 last, v]) base g (.slice A n c) (ts ++ [now]) (decide ((n : Int) + 1 = last)) w (.returned (.bool (decide ((n : Int) + 1 = last)))) ((w1.setCell ⟨g, 1, none⟩ (.slice A1 (n + 1) c1)).drewN d) := fun d => by
    refine ⟨rfl, .slice A1 (n + 1) c1, ?_, ?_, ?_, ?_⟩
    · exact (HB1.out.set 1 _).keep rfl
    · rw [L1.out, ← iL_snoc]
      exact (Fr.drewN (fun _ => False) _ d).own (own_setOther K1.out (own_ne K1.out HB1.out (by decide)) _) fun _ _ h => h
    · rcases K4.out with h | ⟨b, h1, h2, _⟩
      · exact .inl h
      · exact .inr ⟨b, h1, h2⟩
    · exact (((Fr.drewN _ w nq).trans (Fr.grown K3.out) (fun _ _ h => .inr h)).trans (Fr.setCell w1 ⟨g, 1, none⟩ _) (fun _ _ h => .inl h)).trans (Fr.drewN (fun k => k = g ∨ (Value.slice A n c).ownBlock = some k) _ d) (fun _ _ h => h)
  have FIN := Mm.hid fin
  clear fin
  by_cases heq : (n : Int) + 1 = last
  · have hb : ((n : Int) + 1 == last) = true := beq_iff_eq.2 heq
    have HE : Hid (decide ((n : Int) + 1 = last) = true) := decide_eq_true heq
    clear heq
    go_wp2_with fail
    go_quiet (fail)
    go_wp2
    go_ret
    have := FIN.out
    rw [HE.out] at this ⊢
    exact this _
  · have hb : ((n : Int) + 1 == last) = false := beq_eq_false_iff_ne.2 heq
    have HE : Hid (decide ((n : Int) + 1 = last) = false) := decide_eq_false heq
    clear heq
    go_wp2_with fail
    go_quiet (fail)
    go_wp2
    go_ret
    have := FIN.out
    rw [HE.out] at this ⊢
    exact this _
/-- a machine's step that notes -/
theorem mach_step_yes (base g : Nat) (last now : Int) (v : Value) (ts : List Int) (n : Nat) (w : World) (h : MachB w g last true v) (hl : ts.length = n) (ho : w.ownsRow base 3 1 v n (iL ts)) (hB : base ≤ w.heap.size) (hn : (n + 1) * 8 ≤ 140737488355328) :
    Calls Try.prog 19 #[.pointer (some ⟨g, 0, none⟩), .int .i64 now] w (StepEnds 35 (fun v => #[.int .i64 last, .bool true, v]) base g v (ts ++ [now]) (decide (1 ≤ last ∧ last ≤ (n : Int) + 1)) w) := by
  obtain ⟨A, c, rfl, hc, _, _⟩ := own_slice ho
  have OR : Hid (w.ownsRow base 3 1 (.slice A n c) n (iL ts)) := ho
  have H : Hid (Blk w g 35 #[.int .i64 last, .bool true, .slice A n c]) := h
  have L1 : Hid ((ts ++ [now]).length = n + 1) := by simp [Hid, hl]
  have c0 : w.cell? ⟨g, 0, none⟩ = some (.int .i64 last) := H.out.cell 0
  have cn : w.cell? ⟨g, 1, none⟩ = some (.bool true) := H.out.cell 1
  have c1 : w.cell? ⟨g, 2, none⟩ = some (.slice A n c) := H.out.cell 2
  have c2 := H.out.lt
  clear ho h hl
  have hone : ∀ u ∈ (#[Value.int .i64 now] : Array Value).toList, u.oneCell' = true := by simp; rfl
  have HO := Mm.hid hone
  clear hone
  go_enter Try.func19, Try.ntmps19
  go_wp2_with fail
  go_quiet (fail)
  rename_i nq
  have OR' : Hid ((w.drewN nq).ownsRow base 3 1 (.slice A n c) n (iL ts)) := (Fr.drewN (fun _ => False) w nq).own OR.out fun _ _ h => h
  go_wp2_with (at_builtin; go_must (refine wp_ape1 base rfl _ _ 22 3 (.int .i64 0) 1 8 #[.int .i64 now] rfl Try.underlying22 info3 rfl (by decide) (by decide) (.slice A n c) n _ rfl rfl rfl HO.out (by exact OR'.out) (Below.refl _ _) hB hn ?_))
  intro v1 w1 k1 k2 k3 k4
  have hne := own_ne OR.out H.out (by decide)
  have hb1 : Blk w1 g 35 #[.int .i64 last, .bool true, .slice A n c] := H.out.keep (k3.block g c2 (fun e => hne e.symm))
  have d0 : w1.cell? ⟨g, 0, none⟩ = some (.int .i64 last) := hb1.cell 0
  have d1 : w1.cell? ⟨g, 2, none⟩ = some (.slice A n c) := hb1.cell 2
  have d2 : w1.frozen? ⟨g, 2, none⟩ = false := hb1.free 2
  have K1 := Mm.hid k1
  have K3 := Mm.hid k3
  have K4 := Mm.hid k4
  have HB1 := Mm.hid hb1
  clear k1 k2 k3 k4 hb1 hne c0 c1 c2 cn OR'
  obtain ⟨A1, c1, hv, _⟩ := own_slice K1.out
  subst hv
  have fin : ∀ d : Nat, StepEnds 35 (fun v => #[.int .i64 last, .bool true, v]) base g (.slice A n c) (ts ++ [now]) (decide (1 ≤ last ∧ last ≤ (n : Int) + 1)) w (.returned (.bool (decide (1 ≤ last ∧ last ≤ (n : Int) + 1)))) ((w1.setCell ⟨g, 2, none⟩ (.slice A1 (n + 1) c1)).drewN d) := fun d => by
    refine ⟨rfl, .slice A1 (n + 1) c1, ?_, ?_, ?_, ?_⟩
    · exact (HB1.out.set 2 _).keep rfl
    · rw [L1.out, ← iL_snoc]
      exact (Fr.drewN (fun _ => False) _ d).own (own_setOther K1.out (own_ne K1.out HB1.out (by decide)) _) fun _ _ h => h
    · rcases K4.out with h | ⟨b, h1, h2, _⟩
      · exact .inl h
      · exact .inr ⟨b, h1, h2⟩
    · exact (((Fr.drewN _ w nq).trans (Fr.grown K3.out) (fun _ _ h => .inr h)).trans (Fr.setCell w1 ⟨g, 2, none⟩ _) (fun _ _ h => .inl h)).trans (Fr.drewN (fun k => k = g ∨ (Value.slice A n c).ownBlock = some k) _ d) (fun _ _ h => h)
  have FIN := Mm.hid fin
  clear fin
  by_cases hl1 : 1 ≤ last
  · by_cases hl2 : last ≤ (n : Int) + 1
    · have HE : Hid (decide (1 ≤ last ∧ last ≤ (n : Int) + 1) = true) := decide_eq_true ⟨hl1, hl2⟩
      go_wp2_with fail
      go_quiet (fail)
      go_wp2
      go_ret
      have := FIN.out
      rw [HE.out] at this ⊢
      exact this _
    · have HE : Hid (decide (1 ≤ last ∧ last ≤ (n : Int) + 1) = false) := decide_eq_false fun h => hl2 h.2
      have hd : decide (last ≤ (n : Int) + 1) = false := decide_eq_false hl2
      go_wp2_with fail
      go_quiet (fail)
      go_wp2
      go_ret
      have := FIN.out
      rw [HE.out] at this ⊢
      exact this _
  · have HE : Hid (decide (1 ≤ last ∧ last ≤ (n : Int) + 1) = false) := decide_eq_false fun h => hl1 h.1
    have hd : decide (1 ≤ last) = false := decide_eq_false hl1
    go_wp2_with fail
    go_quiet (fail)
    go_wp2
    go_ret
    have := FIN.out
    rw [HE.out] at this ⊢
    exact this _
/-- a machine's step that notes -/
theorem mach_step_no (base g : Nat) (last now : Int) (v : Value) (ts : List Int) (n : Nat) (w : World) (h : MachB w g last false v) (hl : ts.length = n) (ho : w.ownsRow base 3 1 v n (iL ts)) (hB : base ≤ w.heap.size) (hlt : (n : Int) < last) (hn : (n + 1) * 8 ≤ 140737488355328) :
    Calls Try.prog 19 #[.pointer (some ⟨g, 0, none⟩), .int .i64 now] w (StepEnds 35 (fun v => #[.int .i64 last, .bool false, v]) base g v (ts ++ [now]) (decide (1 ≤ last ∧ last ≤ (n : Int) + 1)) w) := by
  obtain ⟨A, c, rfl, hc, _, _⟩ := own_slice ho
  have OR : Hid (w.ownsRow base 3 1 (.slice A n c) n (iL ts)) := ho
  have H : Hid (Blk w g 35 #[.int .i64 last, .bool false, .slice A n c]) := h
  have L1 : Hid ((ts ++ [now]).length = n + 1) := by simp [Hid, hl]
  have c0 : w.cell? ⟨g, 0, none⟩ = some (.int .i64 last) := H.out.cell 0
  have cn : w.cell? ⟨g, 1, none⟩ = some (.bool false) := H.out.cell 1
  have c1 : w.cell? ⟨g, 2, none⟩ = some (.slice A n c) := H.out.cell 2
  have c2 := H.out.lt
  clear ho h hl
  have hone : ∀ u ∈ (#[Value.int .i64 now] : Array Value).toList, u.oneCell' = true := by simp; rfl
  have HO := Mm.hid hone
  clear hone
  have hd0 : decide (last ≤ (n : Int)) = false := decide_eq_false (by omega)
  go_enter Try.func19, Try.ntmps19
  go_wp2_with fail
  go_quiet (fail)
  rename_i nq
  have OR' : Hid ((w.drewN nq).ownsRow base 3 1 (.slice A n c) n (iL ts)) := (Fr.drewN (fun _ => False) w nq).own OR.out fun _ _ h => h
  go_wp2_with (at_builtin; go_must (refine wp_ape1 base rfl _ _ 22 3 (.int .i64 0) 1 8 #[.int .i64 now] rfl Try.underlying22 info3 rfl (by decide) (by decide) (.slice A n c) n _ rfl rfl rfl HO.out (by exact OR'.out) (Below.refl _ _) hB hn ?_))
  intro v1 w1 k1 k2 k3 k4
  have hne := own_ne OR.out H.out (by decide)
  have hb1 : Blk w1 g 35 #[.int .i64 last, .bool false, .slice A n c] := H.out.keep (k3.block g c2 (fun e => hne e.symm))
  have d0 : w1.cell? ⟨g, 0, none⟩ = some (.int .i64 last) := hb1.cell 0
  have d1 : w1.cell? ⟨g, 2, none⟩ = some (.slice A n c) := hb1.cell 2
  have d2 : w1.frozen? ⟨g, 2, none⟩ = false := hb1.free 2
  have K1 := Mm.hid k1
  have K3 := Mm.hid k3
  have K4 := Mm.hid k4
  have HB1 := Mm.hid hb1
  clear k1 k2 k3 k4 hb1 hne c0 c1 c2 cn OR'
  obtain ⟨A1, c1, hv, _⟩ := own_slice K1.out
  subst hv
  have fin : ∀ d : Nat, StepEnds 35 (fun v => #[.int .i64 last, .bool false, v]) base g (.slice A n c) (ts ++ [now]) (decide (1 ≤ last ∧ last ≤ (n : Int) + 1)) w (.returned (.bool (decide (1 ≤ last ∧ last ≤ (n : Int) + 1)))) ((w1.setCell ⟨g, 2, none⟩ (.slice A1 (n + 1) c1)).drewN d) := fun d => by
    refine ⟨rfl, .slice A1 (n + 1) c1, ?_, ?_, ?_, ?_⟩
    · exact (HB1.out.set 2 _).keep rfl
    · rw [L1.out, ← iL_snoc]
      exact (Fr.drewN (fun _ => False) _ d).own (own_setOther K1.out (own_ne K1.out HB1.out (by decide)) _) fun _ _ h => h
    · rcases K4.out with h | ⟨b, h1, h2, _⟩
      · exact .inl h
      · exact .inr ⟨b, h1, h2⟩
    · exact (((Fr.drewN _ w nq).trans (Fr.grown K3.out) (fun _ _ h => .inr h)).trans (Fr.setCell w1 ⟨g, 2, none⟩ _) (fun _ _ h => .inl h)).trans (Fr.drewN (fun k => k = g ∨ (Value.slice A n c).ownBlock = some k) _ d) (fun _ _ h => h)
  have FIN := Mm.hid fin
  clear fin
  by_cases hl1 : 1 ≤ last
  · by_cases hl2 : last ≤ (n : Int) + 1
    · have HE : Hid (decide (1 ≤ last ∧ last ≤ (n : Int) + 1) = true) := decide_eq_true ⟨hl1, hl2⟩
      go_wp2_with fail
      go_quiet (fail)
      go_wp2
      go_ret
      have := FIN.out
      rw [HE.out] at this ⊢
      exact this _
    · have HE : Hid (decide (1 ≤ last ∧ last ≤ (n : Int) + 1) = false) := decide_eq_false fun h => hl2 h.2
      have hd : decide (last ≤ (n : Int) + 1) = false := decide_eq_false hl2
      go_wp2_with fail
      go_quiet (fail)
      go_wp2
      go_ret
      have := FIN.out
      rw [HE.out] at this ⊢
      exact this _
  · exact absurd (show 1 ≤ last by omega) hl1
/-- a counter that has made all its steps -/
theorem ctr_step_full (base g : Nat) (last now : Int) (v : Value) (ts : List Int) (n : Nat) (w : World) (h : CtrB w g last v) (hl : ts.length = n) (ho : w.ownsRow base 3 1 v n (iL ts)) (hlt : (n : Int) = last) :
    Calls Try.prog 20 #[.pointer (some ⟨g, 0, none⟩), .int .i64 now] w (StepEnds 72 (fun v => #[.int .i64 last, v]) base g v ts true w) := by
  obtain ⟨A, c, rfl, hc, _, _⟩ := own_slice ho
  have OR : Hid (w.ownsRow base 3 1 (.slice A n c) n (iL ts) ∧ ts.length = n) := ⟨ho, hl⟩
  subst hlt
  have H : Hid (Blk w g 72 #[.int .i64 (n : Int), .slice A n c]) := h
  have c0 : w.cell? ⟨g, 0, none⟩ = some (.int .i64 (n : Int)) := H.out.cell 0
  have c1 : w.cell? ⟨g, 1, none⟩ = some (.slice A n c) := H.out.cell 1
  clear ho h hl
  go_enter Try.func20, Try.ntmps20
  go_wp2_with fail
  go_quiet (fail)
  go_wp2_with fail
  go_quiet (fail)
  go_wp2
  go_ret
  exact ⟨rfl, _, H.out.keep rfl, by rw [OR.out.2]; exact own_same OR.out.1 (fun _ => rfl), .inl rfl, ⟨rfl, rfl, rfl, Nat.le_refl _, fun _ _ _ => rfl⟩⟩
theorem mach_step_full (base g : Nat) (last now : Int) (v : Value) (ts : List Int) (n : Nat) (w : World) (h : MachB w g last false v) (hl : ts.length = n) (ho : w.ownsRow base 3 1 v n (iL ts)) (hlt : last ≤ (n : Int)) :
    Calls Try.prog 19 #[.pointer (some ⟨g, 0, none⟩), .int .i64 now] w (StepEnds 35 (fun v => #[.int .i64 last, .bool false, v]) base g v ts true w) := by
  obtain ⟨A, c, rfl, hc, _, _⟩ := own_slice ho
  have OR : Hid (w.ownsRow base 3 1 (.slice A n c) n (iL ts) ∧ ts.length = n) := ⟨ho, hl⟩
  have H : Hid (Blk w g 35 #[.int .i64 last, .bool false, .slice A n c]) := h
  have c0 : w.cell? ⟨g, 0, none⟩ = some (.int .i64 last) := H.out.cell 0
  have cn : w.cell? ⟨g, 1, none⟩ = some (.bool false) := H.out.cell 1
  have c1 : w.cell? ⟨g, 2, none⟩ = some (.slice A n c) := H.out.cell 2
  have hd : decide (last ≤ (n : Int)) = true := decide_eq_true hlt
  clear ho h hl
  go_enter Try.func19, Try.ntmps19
  go_wp2_with fail
  go_quiet (fail)
  go_wp2
  go_ret
  exact ⟨rfl, _, H.out.keep rfl, by rw [OR.out.2]; exact own_same OR.out.1 (fun _ => rfl), .inl rfl, ⟨rfl, rfl, rfl, Nat.le_refl _, fun _ _ _ => rfl⟩⟩
end Go.Proofs.Ytecppnkfnppmoaa

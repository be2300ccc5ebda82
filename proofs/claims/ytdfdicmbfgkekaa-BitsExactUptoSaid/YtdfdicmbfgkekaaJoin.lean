/- Walks: what another set has put in, met, taken out. -/
import Derived.Test.YtdfdicmbfgkekaaTurn
namespace Go.Proofs.Ytdfdicmbfgkekaa
open Go.RowKit Go.Mm Go.Bs
/-- the two boxes that a turn's closure holds -/
def Boxes (w : World) (a bx yb : Nat) (p : Value) : Prop := w.cell? ⟨bx, 0, none⟩ = some (.pointer (some ⟨a, 0, none⟩)) ∧ w.cell? ⟨yb, 0, none⟩ = some p
theorem and_u64w (a b : Nat) (ha : a < 18446744073709551616) (hb : b < 18446744073709551616) : bits .and .u64 (a : Int) (b : Int) = ((a &&& b : Nat) : Int) := u64_and_nat a b ha hb
theorem or_u64w (a b : Nat) (ha : a < 18446744073709551616) (hb : b < 18446744073709551616) : bits .or .u64 (a : Int) (b : Int) = ((a ||| b : Nat) : Int) := u64_or_nat a b ha hb
theorem andNot_u64w (a b : Nat) (ha : a < 18446744073709551616) (hb : b < 18446744073709551616) : bits .andNot .u64 (a : Int) (b : Int) = ((a &&& (18446744073709551615 - b) : Nat) : Int) := u64_andNot_nat a b ha hb
theorem SetB.drewN {w : World} {a g r : Nat} {S : Nat → Bool} (h : SetB w a g r S) (n : Nat) : SetB (w.drewN n) a g r S := h.fr (Fr.drewN (fun _ => False) _ n) (fun h => h) (fun h => h)
theorem OtherAt.drewN {w : World} {p : Value} {T : Nat → Bool} {k : Nat} (h : OtherAt w p T k) (n : Nat) : OtherAt (w.drewN n) p T k := by
  rcases h with h | ⟨b, g, q, T', h1, h2, h3⟩
  · exact .inl h
  · exact .inr ⟨b, g, q, T', h1, h2.drewN n, h3⟩
theorem word_quiet (p : Value) (T : Nat → Bool) (k : Nat) (w : World) (h : OtherAt w p T k) (n : Nat) : Calls Try.prog 41 #[p, .int .i64 (k : Int)] (w.drewN n) fun e w' => e = .returned (.int .u64 (word T k : Nat)) ∧ ∃ m, w' = w.drewN m :=
  (word_any p T k _ (h.drewN n)).mono fun _ _ ⟨he, hw⟩ => ⟨he, n, hw.symm⟩
theorem top_quiet (a g r k : Nat) (S : Nat → Bool) (w : World) (h : SetB w a g r S) (hk : k < nw r) (n : Nat) : Calls Try.prog 42 #[.pointer (some ⟨a, 0, none⟩), .int .i64 (k : Int)] (w.drewN n) fun e w' => e = .returned (.int .u64 (word (full r) k : Nat)) ∧ ∃ m, w' = w.drewN m :=
  (top_any a g r k S _ (h.drewN n) hk).mono fun _ _ ⟨he, hw⟩ => ⟨he, n, hw.symm⟩
set_option maxHeartbeats 1000000 in
theorem join1_any (a g r k bx yb : Nat) (M T : Nat → Bool) (p : Value) (w : World) (h : SetB w a g r M) (hk : k < nw r) (hB : Boxes w a bx yb p) (ho : OtherAt w p T k) :
    Calls Try.prog 40 #[.int .i64 (k : Int), .pointer (some ⟨bx, 0, none⟩), .pointer (some ⟨yb, 0, none⟩)] w fun e w' => e = .returned (.int .u64 ((word M k ||| (word T k &&& word (full r) k) : Nat) : Int)) ∧ ∃ n, w' = w.drewN n := by
  have c1 : w.cell? ⟨a, 1, none⟩ = some (.slice (some ⟨g, 0, none⟩) (nw r) (nw r)) := h.st.cell 1
  have ck : w.cell? ⟨g, k, none⟩ = some (.int .u64 ((word M k : Nat) : Int)) := (h.ws.cell _).trans (wcells_get hk)
  obtain ⟨b1, b2⟩ := hB
  have HW := Mm.hid (word_quiet p T k w ho)
  have HT := Mm.hid (top_quiet a g r k M w h hk)
  have E := Mm.hid (And.intro (and_u64w (word T k) (word (full r) k) (word_lt _ _) (word_lt _ _)) (or_u64w (word M k) (word T k &&& word (full r) k) (word_lt _ _) (and_lt (word_lt _ _))))
  have hk0 : (0 : Int) ≤ (k : Int) := by omega
  have hk1 : (k : Int) < (nw r : Int) := by omega
  clear h ho
  go_enter Try.func40, Try.ntmps40
  go_wp2_with fail
  go_quiet ((first | (go_at_call 41; exact HW.out _) | (go_at_call 42; exact HT.out _)))
  go_wp2
  go_ret
  exact ⟨ret_u64 (by rw [E.out.1, E.out.2]), _, rfl⟩
set_option maxHeartbeats 1000000 in
theorem meet1_any (a g r k bx yb : Nat) (M T : Nat → Bool) (p : Value) (w : World) (h : SetB w a g r M) (hk : k < nw r) (hB : Boxes w a bx yb p) (ho : OtherAt w p T k) :
    Calls Try.prog 43 #[.int .i64 (k : Int), .pointer (some ⟨bx, 0, none⟩), .pointer (some ⟨yb, 0, none⟩)] w fun e w' => e = .returned (.int .u64 ((word M k &&& word T k : Nat) : Int)) ∧ ∃ n, w' = w.drewN n := by
  have c1 : w.cell? ⟨a, 1, none⟩ = some (.slice (some ⟨g, 0, none⟩) (nw r) (nw r)) := h.st.cell 1
  have ck : w.cell? ⟨g, k, none⟩ = some (.int .u64 ((word M k : Nat) : Int)) := (h.ws.cell _).trans (wcells_get hk)
  obtain ⟨b1, b2⟩ := hB
  have HW := Mm.hid (word_quiet p T k w ho)
  have E := Mm.hid (and_u64w (word M k) (word T k) (word_lt _ _) (word_lt _ _))
  have hk0 : (0 : Int) ≤ (k : Int) := by omega
  have hk1 : (k : Int) < (nw r : Int) := by omega
  clear h ho
  go_enter Try.func43, Try.ntmps43
  go_wp2_with fail
  go_quiet ((go_at_call 41; exact HW.out _))
  go_wp2
  go_ret
  exact ⟨ret_u64 (by rw [E.out]), _, rfl⟩
set_option maxHeartbeats 1000000 in
theorem less1_any (a g r k bx yb : Nat) (M T : Nat → Bool) (p : Value) (w : World) (h : SetB w a g r M) (hk : k < nw r) (hB : Boxes w a bx yb p) (ho : OtherAt w p T k) :
    Calls Try.prog 44 #[.int .i64 (k : Int), .pointer (some ⟨bx, 0, none⟩), .pointer (some ⟨yb, 0, none⟩)] w fun e w' => e = .returned (.int .u64 ((word M k &&& (18446744073709551615 - word T k) : Nat) : Int)) ∧ ∃ n, w' = w.drewN n := by
  have c1 : w.cell? ⟨a, 1, none⟩ = some (.slice (some ⟨g, 0, none⟩) (nw r) (nw r)) := h.st.cell 1
  have ck : w.cell? ⟨g, k, none⟩ = some (.int .u64 ((word M k : Nat) : Int)) := (h.ws.cell _).trans (wcells_get hk)
  obtain ⟨b1, b2⟩ := hB
  have HW := Mm.hid (word_any p T k w ho)
  have E := Mm.hid (andNot_u64w (word M k) (word T k) (word_lt _ _) (word_lt _ _))
  have hk0 : (0 : Int) ≤ (k : Int) := by omega
  have hk1 : (k : Int) < (nw r : Int) := by omega
  clear h ho
  go_enter Try.func44, Try.ntmps44
  go_wp2_with fail
  refine HW.out.mono ?_
  rintro e w' ⟨rfl, rfl⟩
  go_wp2
  go_ret
  exact ⟨ret_u64 (by rw [E.out]), 0, rfl⟩
/-- turned up to the word k -/
def mix (R S : Nat → Bool) (k : Nat) : Nat → Bool := fun i => if i < 64 * k then R i else S i
def chg (R S : Nat → Bool) : Nat → Bool
  | 0 => false
  | k + 1 => chg R S k || (((word R k : Nat) : Int) != ((word S k : Nat) : Int))
theorem mix_zero (R S : Nat → Bool) : mix R S 0 = S := rfl
theorem mix_at (R S : Nat → Bool) (k : Nat) : word (mix R S k) k = word S k := word_congr fun j hj => if_neg (by omega)
theorem mix_new (R S : Nat → Bool) (k : Nat) : word (mix R S (k + 1)) k = word R k := word_congr fun j hj => if_pos (by omega)
theorem mix_ne (R S : Nat → Bool) {k j : Nat} (h : j ≠ k) : word (mix R S (k + 1)) j = word (mix R S k) j := word_congr fun i hi => by
  unfold mix
  by_cases e : 64 * j + i < 64 * k
  · rw [if_pos e, if_pos (by omega)]
  · rw [if_neg e, if_neg (by omega)]
theorem mix_out {R S : Nat → Bool} {r : Nat} (hR : ∀ i, r ≤ i → R i = false) (hS : ∀ i, r ≤ i → S i = false) (k : Nat) : ∀ i, r ≤ i → mix R S k i = false := fun i hi => by
  unfold mix; split
  · exact hR i hi
  · exact hS i hi
theorem mix_end {R S : Nat → Bool} {r : Nat} (hR : ∀ i, r ≤ i → R i = false) (hS : ∀ i, r ≤ i → S i = false) : mix R S (nw r) = R := by
  funext i
  unfold mix; split
  · rfl
  · have := room_words r
    rw [hR i (by omega), hS i (by omega)]
/-- another set beside the one in a: none, the same, or one whose words lie elsewhere -/
def Other (w : World) (a g : Nat) (p : Value) (S T : Nat → Bool) : Prop := (p = .pointer none ∧ T = none0) ∨ (p = .pointer (some ⟨a, 0, none⟩) ∧ T = S) ∨ ∃ b h q, p = .pointer (some ⟨b, 0, none⟩) ∧ SetB w b h q T ∧ h ≠ g
theorem Other.at {w w' : World} {a g r k : Nat} {p : Value} {R S T : Nat → Bool} (h0 : SetB w a g r S) (ho : Other w a g p S T) (hm : SetB w' a g r (mix R S k)) (hf : Fr (· = g) w w') : OtherAt w' p T k := by
  rcases ho with ⟨h1, h2⟩ | ⟨h1, h2⟩ | ⟨b, h, q, h1, h2, h3⟩
  · exact .inl ⟨h1, by rw [h2]; exact word_none k⟩
  · exact .inr ⟨a, g, r, _, h1, hm, by rw [h2]; exact mix_at R S k⟩
  · exact .inr ⟨b, h, q, T, h1, h2.fr hf (blk_ne h2.st h0.ws (by decide)) h3, rfl⟩
/-- what a turn leaves -/
def TurnEnds (a g r : Nat) (R S : Nat → Bool) (w : World) (e : Ending) (w' : World) : Prop := e = .returned (.bool (chg R S (nw r))) ∧ SetB w' a g r R ∧ Fr (· = g) w w' ∧ w'.heap.size = w.heap.size
set_option maxHeartbeats 2000000 in
theorem turn_join (a g r bx yb : Nat) (R S T : Nat → Bool) (p : Value) (w : World) (h : SetB w a g r S) (hB : Boxes w a bx yb p) (hbx : bx ≠ g) (hyb : yb ≠ g) (ho : Other w a g p S T) (hR : ∀ i, r ≤ i → R i = false)
    (hv : ∀ k, k < nw r → (word S k ||| (word T k &&& word (full r) k)) = word R k) :
    Calls Try.prog 39 #[.pointer (some ⟨a, 0, none⟩), .func (.func 40) #[] #[.pointer (some ⟨bx, 0, none⟩), .pointer (some ⟨yb, 0, none⟩)]] w (TurnEnds a g r R S w) := by
  have H := Mm.hid h
  have HO := Mm.hid ho
  have HBX := Mm.hid hB
  have HV := Mm.hid hv
  have HR := Mm.hid hR
  have hnw := nw_le r h.most
  obtain ⟨n, hn⟩ : ∃ n, nw r = n := ⟨_, rfl⟩
  have c1 : w.cell? ⟨a, 1, none⟩ = some (.slice (some ⟨g, 0, none⟩) n n) := by rw [← hn]; exact h.st.cell 1
  rw [hn] at hnw
  have HN := Mm.hid hn
  clear h ho hB hv hR hn
  go_enter Try.func39, Try.ntmps39
  go_wp2_with fail
  clear c1
  go_loopw [5, 13] (fun c i wr => ∃ k : Nat, k ≤ n ∧ i = .int .i64 (k : Nat) ∧ c = .bool (chg R S k) ∧ Hid (SetB wr a g r (mix R S k) ∧ Fr (· = g) w wr ∧ wr.heap.size = w.heap.size)) (fun _ i _ => n - (intOf i).toNat)
  case atStart => exact ⟨0, Nat.zero_le _, rfl, rfl, H.out, Fr.refl _ _, rfl⟩
  case round =>
    obtain ⟨k, hk, rfl, rfl, HK⟩ := hrel
    by_cases hlt : k < n
    · obtain ⟨m1, m2, m3⟩ := HK.out
      have hkr : k < nw r := by rw [HN.out]; exact hlt
      have HC := Mm.hid (join1_any a g r k bx yb (mix R S k) T p wr m1 hkr ⟨m2.cell HBX.out.1 hbx, m2.cell HBX.out.2 hyb⟩ (HO.out.at H.out m1 m2))
      have HE : Hid (word (mix R S k) k ||| (word T k &&& word (full r) k) = word R k) := by show _ = _; rw [mix_at, HV.out k hkr]
      have HNX : Hid (∀ m, SetB ((wr.drewN m).setCell ⟨g, k, none⟩ (.int .u64 ((word R k : Nat) : Int))) a g r (mix R S (k + 1)) ∧ Fr (· = g) w ((wr.drewN m).setCell ⟨g, k, none⟩ (.int .u64 ((word R k : Nat) : Int))) ∧ ((wr.drewN m).setCell ⟨g, k, none⟩ (.int .u64 ((word R k : Nat) : Int))).heap.size = w.heap.size) := fun m =>
        ⟨(m1.drewN m).turn (fun j hj => mix_ne R S hj) (mix_out HR.out H.out.out (k + 1)) (by unfold wv; rw [mix_new]), (m2.trans (Fr.drewN (fun _ => False) _ m) (fun _ _ h => h.elim)).trans (Fr.setCell (wr.drewN m) ⟨g, k, none⟩ _) (fun _ _ h => h), by simp [World.setCell]; exact m3⟩
      have ck : ∀ m, (wr.drewN m).cell? ⟨g, k, none⟩ = some (.int .u64 ((word S k : Nat) : Int)) := fun m => ((m1.drewN m).ws.cell _).trans ((wcells_get hkr).trans (by unfold wv; rw [mix_at]))
      have c1 : ∀ m, (wr.drewN m).cell? ⟨a, 1, none⟩ = some (.slice (some ⟨g, 0, none⟩) n n) := fun m => by have := (m1.drewN m).st.cell 1; rw [← HN.out]; exact this
      have dk : ∀ m, (wr.drewN m).frozen? ⟨g, k, none⟩ = false := fun m => (m1.drewN m).ws.free _
      have CK := Mm.hid ck
      have C1 := Mm.hid c1
      have DK := Mm.hid dk
      clear m1 m2 m3 HK ck c1 dk
      cases hc : chg R S k
      · have HG : Hid (chg R S (k + 1) = (((word R k : Nat) : Int) != ((word S k : Nat) : Int))) := by show _ = _; rw [chg, hc, Bool.false_or]
        clear hc
        go_wp2_with fail
        refine HC.out.mono ?_
        rintro e w' ⟨rfl, m, rfl⟩
        rw [HE.out]
        have ck := CK.out m
        have c1 := C1.out m
        have dk := DK.out m
        go_wp2
        go_roundw
        case rel => exact ⟨k + 1, by omega, by go_num, by rw [HG.out], HNX.out m⟩
        case measure => simp [intOf]; omega
      · have HG : Hid (chg R S (k + 1) = true) := by show _ = _; rw [chg, hc, Bool.true_or]
        clear hc
        go_wp2_with fail
        refine HC.out.mono ?_
        rintro e w' ⟨rfl, m, rfl⟩
        rw [HE.out]
        have ck := CK.out m
        have c1 := C1.out m
        have dk := DK.out m
        go_wp2
        go_roundw
        case rel => exact ⟨k + 1, by omega, by go_num, by rw [HG.out], HNX.out m⟩
        case measure => simp [intOf]; omega
    · have hkn : k = n := by omega
      subst hkn
      obtain ⟨m1, m2, m3⟩ := HK.out
      have fin : TurnEnds a g r R S w (.returned (.bool (chg R S k))) wr := ⟨by rw [HN.out], by rw [← HN.out, mix_end HR.out H.out.out] at m1; exact m1, m2, m3⟩
      have FIN := Mm.hid fin
      clear fin m1 m2 m3 HK
      go_wp2
      go_ret
      exact FIN.out
set_option maxHeartbeats 2000000 in
theorem turn_meet (a g r bx yb : Nat) (R S T : Nat → Bool) (p : Value) (w : World) (h : SetB w a g r S) (hB : Boxes w a bx yb p) (hbx : bx ≠ g) (hyb : yb ≠ g) (ho : Other w a g p S T) (hR : ∀ i, r ≤ i → R i = false)
    (hv : ∀ k, k < nw r → (word S k &&& word T k) = word R k) :
    Calls Try.prog 39 #[.pointer (some ⟨a, 0, none⟩), .func (.func 43) #[] #[.pointer (some ⟨bx, 0, none⟩), .pointer (some ⟨yb, 0, none⟩)]] w (TurnEnds a g r R S w) := by
  have H := Mm.hid h
  have HO := Mm.hid ho
  have HBX := Mm.hid hB
  have HV := Mm.hid hv
  have HR := Mm.hid hR
  have hnw := nw_le r h.most
  obtain ⟨n, hn⟩ : ∃ n, nw r = n := ⟨_, rfl⟩
  have c1 : w.cell? ⟨a, 1, none⟩ = some (.slice (some ⟨g, 0, none⟩) n n) := by rw [← hn]; exact h.st.cell 1
  rw [hn] at hnw
  have HN := Mm.hid hn
  clear h ho hB hv hR hn
  go_enter Try.func39, Try.ntmps39
  go_wp2_with fail
  clear c1
  go_loopw [5, 13] (fun c i wr => ∃ k : Nat, k ≤ n ∧ i = .int .i64 (k : Nat) ∧ c = .bool (chg R S k) ∧ Hid (SetB wr a g r (mix R S k) ∧ Fr (· = g) w wr ∧ wr.heap.size = w.heap.size)) (fun _ i _ => n - (intOf i).toNat)
  case atStart => exact ⟨0, Nat.zero_le _, rfl, rfl, H.out, Fr.refl _ _, rfl⟩
  case round =>
    obtain ⟨k, hk, rfl, rfl, HK⟩ := hrel
    by_cases hlt : k < n
    · obtain ⟨m1, m2, m3⟩ := HK.out
      have hkr : k < nw r := by rw [HN.out]; exact hlt
      have HC := Mm.hid (meet1_any a g r k bx yb (mix R S k) T p wr m1 hkr ⟨m2.cell HBX.out.1 hbx, m2.cell HBX.out.2 hyb⟩ (HO.out.at H.out m1 m2))
      have HE : Hid (word (mix R S k) k &&& word T k = word R k) := by show _ = _; rw [mix_at, HV.out k hkr]
      have HNX : Hid (∀ m, SetB ((wr.drewN m).setCell ⟨g, k, none⟩ (.int .u64 ((word R k : Nat) : Int))) a g r (mix R S (k + 1)) ∧ Fr (· = g) w ((wr.drewN m).setCell ⟨g, k, none⟩ (.int .u64 ((word R k : Nat) : Int))) ∧ ((wr.drewN m).setCell ⟨g, k, none⟩ (.int .u64 ((word R k : Nat) : Int))).heap.size = w.heap.size) := fun m =>
        ⟨(m1.drewN m).turn (fun j hj => mix_ne R S hj) (mix_out HR.out H.out.out (k + 1)) (by unfold wv; rw [mix_new]), (m2.trans (Fr.drewN (fun _ => False) _ m) (fun _ _ h => h.elim)).trans (Fr.setCell (wr.drewN m) ⟨g, k, none⟩ _) (fun _ _ h => h), by simp [World.setCell]; exact m3⟩
      have ck : ∀ m, (wr.drewN m).cell? ⟨g, k, none⟩ = some (.int .u64 ((word S k : Nat) : Int)) := fun m => ((m1.drewN m).ws.cell _).trans ((wcells_get hkr).trans (by unfold wv; rw [mix_at]))
      have c1 : ∀ m, (wr.drewN m).cell? ⟨a, 1, none⟩ = some (.slice (some ⟨g, 0, none⟩) n n) := fun m => by have := (m1.drewN m).st.cell 1; rw [← HN.out]; exact this
      have dk : ∀ m, (wr.drewN m).frozen? ⟨g, k, none⟩ = false := fun m => (m1.drewN m).ws.free _
      have CK := Mm.hid ck
      have C1 := Mm.hid c1
      have DK := Mm.hid dk
      clear m1 m2 m3 HK ck c1 dk
      cases hc : chg R S k
      · have HG : Hid (chg R S (k + 1) = (((word R k : Nat) : Int) != ((word S k : Nat) : Int))) := by show _ = _; rw [chg, hc, Bool.false_or]
        clear hc
        go_wp2_with fail
        refine HC.out.mono ?_
        rintro e w' ⟨rfl, m, rfl⟩
        rw [HE.out]
        have ck := CK.out m
        have c1 := C1.out m
        have dk := DK.out m
        go_wp2
        go_roundw
        case rel => exact ⟨k + 1, by omega, by go_num, by rw [HG.out], HNX.out m⟩
        case measure => simp [intOf]; omega
      · have HG : Hid (chg R S (k + 1) = true) := by show _ = _; rw [chg, hc, Bool.true_or]
        clear hc
        go_wp2_with fail
        refine HC.out.mono ?_
        rintro e w' ⟨rfl, m, rfl⟩
        rw [HE.out]
        have ck := CK.out m
        have c1 := C1.out m
        have dk := DK.out m
        go_wp2
        go_roundw
        case rel => exact ⟨k + 1, by omega, by go_num, by rw [HG.out], HNX.out m⟩
        case measure => simp [intOf]; omega
    · have hkn : k = n := by omega
      subst hkn
      obtain ⟨m1, m2, m3⟩ := HK.out
      have fin : TurnEnds a g r R S w (.returned (.bool (chg R S k))) wr := ⟨by rw [HN.out], by rw [← HN.out, mix_end HR.out H.out.out] at m1; exact m1, m2, m3⟩
      have FIN := Mm.hid fin
      clear fin m1 m2 m3 HK
      go_wp2
      go_ret
      exact FIN.out
set_option maxHeartbeats 2000000 in
theorem turn_less (a g r bx yb : Nat) (R S T : Nat → Bool) (p : Value) (w : World) (h : SetB w a g r S) (hB : Boxes w a bx yb p) (hbx : bx ≠ g) (hyb : yb ≠ g) (ho : Other w a g p S T) (hR : ∀ i, r ≤ i → R i = false)
    (hv : ∀ k, k < nw r → (word S k &&& (18446744073709551615 - word T k)) = word R k) :
    Calls Try.prog 39 #[.pointer (some ⟨a, 0, none⟩), .func (.func 44) #[] #[.pointer (some ⟨bx, 0, none⟩), .pointer (some ⟨yb, 0, none⟩)]] w (TurnEnds a g r R S w) := by
  have H := Mm.hid h
  have HO := Mm.hid ho
  have HBX := Mm.hid hB
  have HV := Mm.hid hv
  have HR := Mm.hid hR
  have hnw := nw_le r h.most
  obtain ⟨n, hn⟩ : ∃ n, nw r = n := ⟨_, rfl⟩
  have c1 : w.cell? ⟨a, 1, none⟩ = some (.slice (some ⟨g, 0, none⟩) n n) := by rw [← hn]; exact h.st.cell 1
  rw [hn] at hnw
  have HN := Mm.hid hn
  clear h ho hB hv hR hn
  go_enter Try.func39, Try.ntmps39
  go_wp2_with fail
  clear c1
  go_loopw [5, 13] (fun c i wr => ∃ k : Nat, k ≤ n ∧ i = .int .i64 (k : Nat) ∧ c = .bool (chg R S k) ∧ Hid (SetB wr a g r (mix R S k) ∧ Fr (· = g) w wr ∧ wr.heap.size = w.heap.size)) (fun _ i _ => n - (intOf i).toNat)
  case atStart => exact ⟨0, Nat.zero_le _, rfl, rfl, H.out, Fr.refl _ _, rfl⟩
  case round =>
    obtain ⟨k, hk, rfl, rfl, HK⟩ := hrel
    by_cases hlt : k < n
    · obtain ⟨m1, m2, m3⟩ := HK.out
      have hkr : k < nw r := by rw [HN.out]; exact hlt
      have HC := Mm.hid (less1_any a g r k bx yb (mix R S k) T p wr m1 hkr ⟨m2.cell HBX.out.1 hbx, m2.cell HBX.out.2 hyb⟩ (HO.out.at H.out m1 m2))
      have HE : Hid (word (mix R S k) k &&& (18446744073709551615 - word T k) = word R k) := by show _ = _; rw [mix_at, HV.out k hkr]
      have HNX : Hid (∀ m, SetB ((wr.drewN m).setCell ⟨g, k, none⟩ (.int .u64 ((word R k : Nat) : Int))) a g r (mix R S (k + 1)) ∧ Fr (· = g) w ((wr.drewN m).setCell ⟨g, k, none⟩ (.int .u64 ((word R k : Nat) : Int))) ∧ ((wr.drewN m).setCell ⟨g, k, none⟩ (.int .u64 ((word R k : Nat) : Int))).heap.size = w.heap.size) := fun m =>
        ⟨(m1.drewN m).turn (fun j hj => mix_ne R S hj) (mix_out HR.out H.out.out (k + 1)) (by unfold wv; rw [mix_new]), (m2.trans (Fr.drewN (fun _ => False) _ m) (fun _ _ h => h.elim)).trans (Fr.setCell (wr.drewN m) ⟨g, k, none⟩ _) (fun _ _ h => h), by simp [World.setCell]; exact m3⟩
      have ck : ∀ m, (wr.drewN m).cell? ⟨g, k, none⟩ = some (.int .u64 ((word S k : Nat) : Int)) := fun m => ((m1.drewN m).ws.cell _).trans ((wcells_get hkr).trans (by unfold wv; rw [mix_at]))
      have c1 : ∀ m, (wr.drewN m).cell? ⟨a, 1, none⟩ = some (.slice (some ⟨g, 0, none⟩) n n) := fun m => by have := (m1.drewN m).st.cell 1; rw [← HN.out]; exact this
      have dk : ∀ m, (wr.drewN m).frozen? ⟨g, k, none⟩ = false := fun m => (m1.drewN m).ws.free _
      have CK := Mm.hid ck
      have C1 := Mm.hid c1
      have DK := Mm.hid dk
      clear m1 m2 m3 HK ck c1 dk
      cases hc : chg R S k
      · have HG : Hid (chg R S (k + 1) = (((word R k : Nat) : Int) != ((word S k : Nat) : Int))) := by show _ = _; rw [chg, hc, Bool.false_or]
        clear hc
        go_wp2_with fail
        refine HC.out.mono ?_
        rintro e w' ⟨rfl, m, rfl⟩
        rw [HE.out]
        have ck := CK.out m
        have c1 := C1.out m
        have dk := DK.out m
        go_wp2
        go_roundw
        case rel => exact ⟨k + 1, by omega, by go_num, by rw [HG.out], HNX.out m⟩
        case measure => simp [intOf]; omega
      · have HG : Hid (chg R S (k + 1) = true) := by show _ = _; rw [chg, hc, Bool.true_or]
        clear hc
        go_wp2_with fail
        refine HC.out.mono ?_
        rintro e w' ⟨rfl, m, rfl⟩
        rw [HE.out]
        have ck := CK.out m
        have c1 := C1.out m
        have dk := DK.out m
        go_wp2
        go_roundw
        case rel => exact ⟨k + 1, by omega, by go_num, by rw [HG.out], HNX.out m⟩
        case measure => simp [intOf]; omega
    · have hkn : k = n := by omega
      subst hkn
      obtain ⟨m1, m2, m3⟩ := HK.out
      have fin : TurnEnds a g r R S w (.returned (.bool (chg R S k))) wr := ⟨by rw [HN.out], by rw [← HN.out, mix_end HR.out H.out.out] at m1; exact m1, m2, m3⟩
      have FIN := Mm.hid fin
      clear fin m1 m2 m3 HK
      go_wp2
      go_ret
      exact FIN.out
end Go.Proofs.Ytdfdicmbfgkekaa

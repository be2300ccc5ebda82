/- Walks: a set in memory; a new one, its room, what it has, put in and taken out. -/
import Derived.Test.YtdfdicmbfgkekaaProg
import Derived.Test.YtdfdicmbfgkekaaPop
import Derived.Test.YtdfdicmbfgkekaaMo
import Derived.Test.YtdfdicmbfgkekaaRows2
import Derived.Outline
import Derived.BigQuiet
import Derived.IntWalk
import Derived.WalkLawsBesides
import Derived.Laws.BitsAllLaws
import Derived.Deep.QuietTactic
import Derived.Deep.RegionHeld3
namespace Go.Proofs.Ytdfdicmbfgkekaa
open Go.RowKit Go.Mm Go.Bs
theorem info63 : (Try.prog.info? 63).map (fun i => (i.zero, i.size, i.bytes)) = some (some (.int .u64 0), 1, 8) := by kernel_rfl
def wv (S : Nat → Bool) (k : Nat) : Value := .int .u64 ((word S k : Nat) : Int)
def wcells (S : Nat → Bool) (n : Nat) : Array Value := ((List.range n).map (wv S)).toArray
/-- how many words a room has -/
def nw (r : Nat) : Nat := (r + 255) / 256 * 4
/-- a set in memory: its struct in block a, its words in block g -/
structure SetB (w : World) (a g r : Nat) (S : Nat → Bool) : Prop where mk ::
  st : Blk w a 70 #[.int .i64 (r : Int), .slice (some ⟨g, 0, none⟩) (nw r) (nw r)]
  ws : Blk w g 63 (wcells S (nw r))
  most : r ≤ 65536
  out : ∀ i, r ≤ i → S i = false
theorem SetB.ne {w : World} {a g r : Nat} {S : Nat → Bool} (h : SetB w a g r S) : a ≠ g := blk_ne h.st h.ws (by decide)
theorem SetB.fr {w w' : World} {T : Nat → Prop} {a g r : Nat} {S : Nat → Bool} (h : SetB w a g r S) (f : Fr T w w') (ha : ¬ T a) (hg : ¬ T g) : SetB w' a g r S := ⟨f.blk h.st ha, f.blk h.ws hg, h.most, h.out⟩
theorem SetB.below {w w' : World} {a g r : Nat} {S : Nat → Bool} (h : SetB w a g r S) (f : Below w.heap.size w w') : SetB w' a g r S := h.fr (Fr.of_below f) (fun h => h) (fun h => h)
theorem wcells_get {S : Nat → Bool} {n k : Nat} (h : k < n) : (wcells S n)[k]? = some (wv S k) := by simp [wcells, h]
theorem wcells_set {S T : Nat → Bool} {n k : Nat} (h : ∀ j, j ≠ k → word T j = word S j) : (wcells S n).setIfInBounds k (wv T k) = wcells T n := by
  apply Array.ext_getElem?
  intro j
  rw [Array.getElem?_setIfInBounds]
  by_cases e : k = j
  · subst e
    by_cases hk : k < n
    · simp [wcells, hk]
    · simp [wcells, hk]
  · rw [if_neg e]
    by_cases hj : j < n
    · rw [wcells_get hj, wcells_get hj]; unfold wv; rw [h j (fun e' => e e'.symm)]
    · simp [wcells, hj]
theorem nw_le (r : Nat) (h : r ≤ 65536) : nw r ≤ 1024 := by unfold nw; omega
theorem lt_nw {r i : Nat} (h : i < r) : i / 64 < nw r := by unfold nw; omega

theorem fits_any (a g r : Nat) (S : Nat → Bool) (i : Int) (w : World) (h : SetB w a g r S) : Calls Try.prog 37 #[.pointer (some ⟨a, 0, none⟩), .int .i64 i] w fun e w' => e = .returned (.bool (decide (0 ≤ i ∧ i < (r : Int)))) ∧ w = w' := by
  have c0 : w.cell? ⟨a, 0, none⟩ = some (.int .i64 (r : Int)) := h.st.cell 0
  have hm := h.most
  by_cases h0 : 0 ≤ i
  · by_cases h1 : i < (r : Int)
    · have hd : decide (0 ≤ i ∧ i < (r : Int)) = true := decide_eq_true ⟨h0, h1⟩
      rw [hd]
      clear h hd
      go_enter Try.func37, Try.ntmps37
      go_wp2
      go_ret
      exact ⟨rfl, rfl⟩
    · have hd : decide (0 ≤ i ∧ i < (r : Int)) = false := decide_eq_false fun h => h1 h.2
      rw [hd]
      clear h hd
      go_enter Try.func37, Try.ntmps37
      go_wp2
      go_ret
      exact ⟨rfl, rfl⟩
  · have hd : decide (0 ≤ i ∧ i < (r : Int)) = false := decide_eq_false fun h => h0 h.1
    rw [hd]
    clear h hd
    go_enter Try.func37, Try.ntmps37
    go_wp2
    go_ret
    exact ⟨rfl, rfl⟩
theorem room_any (a g r : Nat) (S : Nat → Bool) (w : World) (h : SetB w a g r S) : Calls Try.prog 10 #[.pointer (some ⟨a, 0, none⟩)] w fun e w' => e = .returned (.int .i64 (r : Int)) ∧ w = w' := by
  have c0 : w.cell? ⟨a, 0, none⟩ = some (.int .i64 (r : Int)) := h.st.cell 0
  clear h
  go_enter Try.func10, Try.ntmps10
  go_wp2
  go_ret
  exact ⟨rfl, rfl⟩
theorem has_bits (S : Nat → Bool) (n : Nat) : (bits .and .u64 (((word S (n / 64) : Nat) : Int) / 2 ^ (n % 64)) 1 == 1) = S n := by
  have e : (((word S (n / 64) : Nat) : Int) / 2 ^ (n % 64)) = ((word S (n / 64) / 2 ^ (n % 64) : Nat) : Int) := by simp
  have hl := word_lt S (n / 64)
  have hd : word S (n / 64) / 2 ^ (n % 64) < 18446744073709551616 := Nat.lt_of_le_of_lt (Nat.div_le_self _ _) hl
  rw [e, show (1 : Int) = ((1 : Nat) : Int) from rfl, u64_and_nat _ _ hd (by decide), nat_mask1, has_word]
  cases S n <;> rfl
/-- whether a number is in -/
def hasB (r : Nat) (S : Nat → Bool) (i : Int) : Bool := decide (0 ≤ i ∧ i < (r : Int)) && S i.toNat
theorem has_any (a g r : Nat) (S : Nat → Bool) (i : Int) (w : World) (h : SetB w a g r S) : Calls Try.prog 12 #[.pointer (some ⟨a, 0, none⟩), .int .i64 i] w fun e w' => e = .returned (.bool (hasB r S i)) ∧ w = w' := by
  have c1 : w.cell? ⟨a, 1, none⟩ = some (.slice (some ⟨g, 0, none⟩) (nw r) (nw r)) := h.st.cell 1
  have hm := h.most
  have HF := Mm.hid (fits_any a g r S i w h)
  by_cases h0 : 0 ≤ i ∧ i < (r : Int)
  · obtain ⟨h0, h1⟩ := h0
    obtain ⟨n, rfl⟩ := Int.eq_ofNat_of_zero_le h0
    have hn : n < r := by omega
    have hk := lt_nw hn
    have ck : w.cell? ⟨g, n / 64, none⟩ = some (.int .u64 ((word S (n / 64) : Nat) : Int)) := (h.ws.cell _).trans (wcells_get hk)
    have HD := Mm.hid (decide_eq_true (p := 0 ≤ (n : Int) ∧ (n : Int) < (r : Int)) ⟨h0, h1⟩)
    have fin : Ending.returned (.bool (bits .and .u64 (((word S (n / 64) : Nat) : Int) / 2 ^ (n % 64)) 1 == 1)) = .returned (.bool (hasB r S n)) := by
      rw [has_bits, hasB, HD.out]; rfl
    clear h
    have FIN := Mm.hid fin
    clear fin
    go_enter Try.func12, Try.ntmps12
    go_wp2_with fail
    refine HF.out.mono ?_
    rintro e w' ⟨rfl, rfl⟩
    rw [HD.out]
    go_wp2
    go_ret
    exact ⟨FIN.out, rfl⟩
  · have hd : decide (0 ≤ i ∧ i < (r : Int)) = false := decide_eq_false h0
    have HD := Mm.hid hd
    have hh : hasB r S i = false := by unfold hasB; rw [hd]; rfl
    rw [hh]
    clear h hd h0 hh
    go_enter Try.func12, Try.ntmps12
    go_wp2_with fail
    refine HF.out.mono ?_
    rintro e w' ⟨rfl, rfl⟩
    rw [HD.out]
    go_wp2
    go_ret
    exact ⟨rfl, rfl⟩
theorem or_u64 (S : Nat → Bool) (n : Nat) : bits .or .u64 ((word S (n / 64) : Nat) : Int) (IntKind.u64.wrap (2 ^ (n % 64))) = ((word (ins S n) (n / 64) : Nat) : Int) := by
  have := pow_lt (i := n)
  have e : ((2 : Int) ^ (n % 64)) = ((2 ^ (n % 64) : Nat) : Int) := by simp
  have e2 : ((2 ^ (n % 64) : Nat) : Int) % 18446744073709551616 = ((2 ^ (n % 64) : Nat) : Int) := by
    generalize 2 ^ (n % 64) = x at this
    omega
  rw [IntKind.wrap_u64, e, e2, u64_or_nat _ _ (word_lt _ _) this, word_ins]
theorem andNot_u64 (S : Nat → Bool) (n : Nat) : bits .andNot .u64 ((word S (n / 64) : Nat) : Int) (IntKind.u64.wrap (2 ^ (n % 64))) = ((word (del S n) (n / 64) : Nat) : Int) := by
  have := pow_lt (i := n)
  have e : ((2 : Int) ^ (n % 64)) = ((2 ^ (n % 64) : Nat) : Int) := by simp
  have e2 : ((2 ^ (n % 64) : Nat) : Int) % 18446744073709551616 = ((2 ^ (n % 64) : Nat) : Int) := by
    generalize 2 ^ (n % 64) = x at this
    omega
  rw [IntKind.wrap_u64, e, e2, u64_andNot_nat _ _ (word_lt _ _) this, word_del]
/-- a set's words, one of them turned -/
theorem SetB.turn {w : World} {a g r k : Nat} {S T : Nat → Bool} (h : SetB w a g r S) (hw : ∀ j, j ≠ k → word T j = word S j) (ho : ∀ i, r ≤ i → T i = false) {v : Value} (hv : v = wv T k) : SetB (w.setCell ⟨g, k, none⟩ v) a g r T := by
  have hne := h.ne
  refine ⟨(Fr.setCell w ⟨g, k, none⟩ v).blk h.st hne, ?_, h.most, ho⟩
  have := h.ws.set k v
  rw [hv] at this
  rw [wcells_set hw] at this
  rw [hv]
  exact this
/-- what 'Add' leaves -/
def addS (r : Nat) (S : Nat → Bool) (i : Int) : Nat → Bool := if 0 ≤ i ∧ i < (r : Int) then ins S i.toNat else S
def addB (r : Nat) (S : Nat → Bool) (i : Int) : Bool := decide (0 ≤ i ∧ i < (r : Int)) && !S i.toNat
def dropS (r : Nat) (S : Nat → Bool) (i : Int) : Nat → Bool := if 0 ≤ i ∧ i < (r : Int) then del S i.toNat else S
def SetEnds (a g r : Nat) (S : Nat → Bool) (v : Value) (w : World) (e : Ending) (w' : World) : Prop := e = .returned v ∧ SetB w' a g r S ∧ Fr (· = g) w w' ∧ w'.heap.size = w.heap.size
set_option maxHeartbeats 1000000 in
theorem add_any (a g r : Nat) (S : Nat → Bool) (i : Int) (w : World) (h : SetB w a g r S) : Calls Try.prog 14 #[.pointer (some ⟨a, 0, none⟩), .int .i64 i] w (SetEnds a g r (addS r S i) (.bool (addB r S i)) w) := by
  have c1 : w.cell? ⟨a, 1, none⟩ = some (.slice (some ⟨g, 0, none⟩) (nw r) (nw r)) := h.st.cell 1
  have hm := h.most
  have HF := Mm.hid (fits_any a g r S i w h)
  have HH := Mm.hid (has_any a g r S i w h)
  have H := Mm.hid h
  by_cases h0 : 0 ≤ i ∧ i < (r : Int)
  · have HD := Mm.hid (decide_eq_true h0)
    obtain ⟨h0, h1⟩ := h0
    obtain ⟨n, rfl⟩ := Int.eq_ofNat_of_zero_le h0
    have hn : n < r := by omega
    have hk := lt_nw hn
    have ck : w.cell? ⟨g, n / 64, none⟩ = some (.int .u64 ((word S (n / 64) : Nat) : Int)) := (h.ws.cell _).trans (wcells_get hk)
    have dk : w.frozen? ⟨g, n / 64, none⟩ = false := h.ws.free _
    have q1 : (0 : Int) ≤ (n : Int) / 64 := by omega
    have q2 : (n : Int) / 64 < (nw r : Int) := by omega
    have q3 : (0 : Int) ≤ (n : Int) % 64 := by omega
    have q6 : (n : Int) % 64 < 64 := by omega
    have q7 : (n : Int) < (nw r : Int) * 64 := by omega
    cases hs : S n
    · have HB : Hid (hasB r S n = false) := by show _ = _; rw [hasB, Int.toNat_natCast, hs, HD.out]; rfl
      have e1 : addS r S n = ins S n := if_pos ⟨h0, h1⟩
      have e2 : addB r S n = true := by rw [addB, HD.out, Int.toNat_natCast, hs]; rfl
      rw [e1, e2]
      have fin : SetEnds a g r (ins S n) (.bool true) w (.returned (.bool true)) (w.setCell ⟨g, n / 64, none⟩ (.int .u64 (bits .or .u64 ((word S (n / 64) : Nat) : Int) (IntKind.u64.wrap (2 ^ (n % 64)))))).drew :=
        ⟨rfl, (h.turn (fun j hj => word_ins_ne S hj) (fun i hi => by unfold ins; rw [if_neg (by omega)]; exact h.out i hi) (by rw [or_u64]; rfl)).fr (Fr.drew (fun _ => False) _) (fun h => h) (fun h => h), (Fr.setCell w ⟨g, n / 64, none⟩ _).trans (Fr.drew (fun _ => False) _) (fun _ _ h => h.elim), by simp [World.setCell]⟩
      have FIN := Mm.hid fin
      clear h hs e1 e2 fin
      go_enter Try.func14, Try.ntmps14
      go_wp2_with fail
      refine HF.out.mono ?_
      rintro e w' ⟨rfl, rfl⟩
      rw [HD.out]
      go_wp2_with fail
      refine HH.out.mono ?_
      rintro e w' ⟨rfl, rfl⟩
      rw [HB.out]
      go_wp2_with fail
      go_region
      all_goals
        go_wp2
        go_ret
        exact FIN.out
    · have HB : Hid (hasB r S n = true) := by show _ = _; rw [hasB, Int.toNat_natCast, hs, HD.out]; rfl
      have e1 : addS r S n = S := (if_pos ⟨h0, h1⟩).trans (ins_same hs)
      have e2 : addB r S n = false := by rw [addB, HD.out, Int.toNat_natCast, hs]; rfl
      rw [e1, e2]
      clear h hs e1 e2 q1 q2 q3 q6 q7
      go_enter Try.func14, Try.ntmps14
      go_wp2_with fail
      refine HF.out.mono ?_
      rintro e w' ⟨rfl, rfl⟩
      rw [HD.out]
      go_wp2_with fail
      refine HH.out.mono ?_
      rintro e w' ⟨rfl, rfl⟩
      rw [HB.out]
      go_wp2
      go_ret
      exact ⟨rfl, H.out, Fr.refl _ _, rfl⟩
  · have hd : decide (0 ≤ i ∧ i < (r : Int)) = false := decide_eq_false h0
    have HD := Mm.hid hd
    have HB : Hid (hasB r S i = false) := by show _ = _; unfold hasB; rw [hd]; rfl
    have e1 : addS r S i = S := if_neg h0
    have e2 : addB r S i = false := by unfold addB; rw [hd]; rfl
    rw [e1, e2]
    clear h hd h0 e1 e2
    go_enter Try.func14, Try.ntmps14
    go_wp2_with fail
    refine HF.out.mono ?_
    rintro e w' ⟨rfl, rfl⟩
    rw [HD.out]
    go_wp2
    go_ret
    exact ⟨rfl, H.out, Fr.refl _ _, rfl⟩
set_option maxHeartbeats 1000000 in
theorem drop_any (a g r : Nat) (S : Nat → Bool) (i : Int) (w : World) (h : SetB w a g r S) : Calls Try.prog 13 #[.pointer (some ⟨a, 0, none⟩), .int .i64 i] w (SetEnds a g r (dropS r S i) (.bool (hasB r S i)) w) := by
  have c1 : w.cell? ⟨a, 1, none⟩ = some (.slice (some ⟨g, 0, none⟩) (nw r) (nw r)) := h.st.cell 1
  have hm := h.most
  have HF := Mm.hid (fits_any a g r S i w h)
  have HH := Mm.hid (has_any a g r S i w h)
  have H := Mm.hid h
  by_cases h0 : 0 ≤ i ∧ i < (r : Int)
  · have HD := Mm.hid (decide_eq_true h0)
    obtain ⟨h0, h1⟩ := h0
    obtain ⟨n, rfl⟩ := Int.eq_ofNat_of_zero_le h0
    have hn : n < r := by omega
    have hk := lt_nw hn
    have ck : w.cell? ⟨g, n / 64, none⟩ = some (.int .u64 ((word S (n / 64) : Nat) : Int)) := (h.ws.cell _).trans (wcells_get hk)
    have dk : w.frozen? ⟨g, n / 64, none⟩ = false := h.ws.free _
    have q1 : (0 : Int) ≤ (n : Int) / 64 := by omega
    have q2 : (n : Int) / 64 < (nw r : Int) := by omega
    have q3 : (0 : Int) ≤ (n : Int) % 64 := by omega
    have q6 : (n : Int) % 64 < 64 := by omega
    have q7 : (n : Int) < (nw r : Int) * 64 := by omega
    cases hs : S n
    · have HB : Hid (hasB r S n = false) := by show _ = _; rw [hasB, Int.toNat_natCast, hs, HD.out]; rfl
      have e1 : dropS r S n = S := (if_pos ⟨h0, h1⟩).trans (del_same hs)
      have e2 : hasB r S n = false := by rw [hasB, HD.out, Int.toNat_natCast, hs]; rfl
      rw [e1, e2]
      clear h hs e1 e2 q1 q2 q3 q6 q7
      go_enter Try.func13, Try.ntmps13
      go_wp2_with fail
      refine HH.out.mono ?_
      rintro e w' ⟨rfl, rfl⟩
      rw [HB.out]
      go_wp2
      go_ret
      exact ⟨rfl, H.out, Fr.refl _ _, rfl⟩
    · have HB : Hid (hasB r S n = true) := by show _ = _; rw [hasB, Int.toNat_natCast, hs, HD.out]; rfl
      have e1 : dropS r S n = del S n := if_pos ⟨h0, h1⟩
      have e2 : hasB r S n = true := by rw [hasB, HD.out, Int.toNat_natCast, hs]; rfl
      rw [e1, e2]
      have fin : SetEnds a g r (del S n) (.bool true) w (.returned (.bool true)) (w.setCell ⟨g, n / 64, none⟩ (.int .u64 (bits .andNot .u64 ((word S (n / 64) : Nat) : Int) (IntKind.u64.wrap (2 ^ (n % 64)))))).drew :=
        ⟨rfl, (h.turn (fun j hj => word_del_ne S hj) (fun i hi => by unfold del; rw [if_neg (by omega)]; exact h.out i hi) (by rw [andNot_u64]; rfl)).fr (Fr.drew (fun _ => False) _) (fun h => h) (fun h => h), (Fr.setCell w ⟨g, n / 64, none⟩ _).trans (Fr.drew (fun _ => False) _) (fun _ _ h => h.elim), by simp [World.setCell]⟩
      have FIN := Mm.hid fin
      clear h hs e1 e2 fin
      go_enter Try.func13, Try.ntmps13
      go_wp2_with fail
      refine HH.out.mono ?_
      rintro e w' ⟨rfl, rfl⟩
      rw [HB.out]
      go_wp2_with fail
      go_region
      all_goals
        go_wp2
        go_ret
        exact FIN.out
  · have hd : decide (0 ≤ i ∧ i < (r : Int)) = false := decide_eq_false h0
    have HD := Mm.hid hd
    have HB : Hid (hasB r S i = false) := by show _ = _; unfold hasB; rw [hd]; rfl
    have e1 : dropS r S i = S := if_neg h0
    have e2 : hasB r S i = false := by unfold hasB; rw [hd]; rfl
    rw [e1, e2]
    clear h hd h0 e1 e2
    go_enter Try.func13, Try.ntmps13
    go_wp2_with fail
    refine HH.out.mono ?_
    rintro e w' ⟨rfl, rfl⟩
    rw [HB.out]
    go_wp2
    go_ret
    exact ⟨rfl, H.out, Fr.refl _ _, rfl⟩
end Go.Proofs.Ytdfdicmbfgkekaa

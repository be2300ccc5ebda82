/- Walk: the law CellsWinner, where the numbers are at most 2^20. -/
import Derived.Test.YtkbobgblohohcaaSum
namespace Go.Proofs.Ytkbobgblohohcaa
open Go.RowKit Go.Mm Go.Cells
/-- the word a holds s; so many notes, so many refusals at most -/
structure At2 (base g : Nat) (w0 : World) (w : World) (a : Nat) (s : Int) (T B : Nat) : Prop where mk ::
  out : ∃ (F : Nat → Prop) (S : Cm), MemB base F w g S ∧ Below base w0 w ∧ S.ws[a]? = some s ∧ S.tr.length ≤ T ∧ S.bad ≤ B
theorem swap_fail {S : Cm} {i : Nat} {s old y : Int} (h : S.ws[i]? = some s) (hs : s = poison ∨ s ≠ old) : (S.look i).1 = s ∧ S.swaps i old = false ∧ (S.swap i old y).ws = S.ws ∧ (S.swap i old y).tr.length = S.tr.length + 1 ∧ (S.swap i old y).bad ≤ S.bad + 1 := by
  have hsw : (S.look i).1 = s ∧ S.swaps i old = false ∧ S.looked i ≤ S.bad + 1 := by
    by_cases hp : s = poison
    · obtain ⟨h1, h2⟩ := look_bad h hp
      exact ⟨by rw [h1], by unfold Cm.swaps; rw [h1]; rfl, by omega⟩
    · obtain ⟨h1, h2⟩ := look_good h hp
      have : s ≠ old := by rcases hs with h | h; exact absurd h hp; exact h
      exact ⟨by rw [h1], by unfold Cm.swaps; rw [h1]; simp [this], by omega⟩
  obtain ⟨h1, h2, h3⟩ := hsw
  exact ⟨h1, h2, by unfold Cm.swap; simp [h2], by unfold Cm.swap; simp, h3⟩
theorem swap_done {S : Cm} {i : Nat} {s y : Int} (h : S.ws[i]? = some s) (hp : s ≠ poison) : (S.look i).1 = s ∧ S.swaps i s = true ∧ (S.swap i s y).ws = S.ws.set i y ∧ (S.swap i s y).tr.length = S.tr.length + 1 ∧ (S.swap i s y).bad ≤ S.bad + 1 := by
  obtain ⟨h1, h2⟩ := look_good h hp
  have hs : S.swaps i s = true := by unfold Cm.swaps; rw [h1]; simp
  refine ⟨by rw [h1], hs, by unfold Cm.swap; simp [hs], by unfold Cm.swap; simp, ?_⟩
  show S.looked i ≤ _
  omega
theorem words_one {S : Cm} {a : Nat} {s : Int} (h : S.ws[a]? = some s) : S.words a 1 = [s] ∧ S.code a 1 = 0 := by
  have hlt := (List.getElem?_eq_some_iff.1 h).1
  have hw : S.within a 1 = true := (within_iff S a 1).2 ⟨by omega, by decide, by omega⟩
  refine ⟨?_, if_pos hw⟩
  unfold Cm.words
  rw [if_pos hw]
  have : (S.ws.drop ((a : Int)).toNat).take ((1 : Int)).toNat = (S.ws.drop a).take 1 := by simp
  rw [this]
  have := drop_take (l := S.ws) (a := a) (k := 0) (x := s) (by simpa using h)
  rw [← this]; rfl
def Won (old : Int) (b : Bool) (s : Int) : Prop := (b = false → s = old) ∧ (b = true → s ≠ old)
def WonS (old z : Int) (b : Bool) : Prop := if old = poison then z = poison ∧ b = false else Won old b z
set_option maxRecDepth 100000 in
set_option maxHeartbeats 4000000 in
theorem law_winner (x y old : Int) (A : Option Addr) (N c : Nat) (xs : List Int) (w : World) (_ : (Lit.int .i64 x).wf = true) (_ : (Lit.int .i64 y).wf = true) (_ : (Lit.int .i64 old).wf = true) (h : Sl w 1 8 fI gI A N c xs) (hN : N ≤ 1048576) :
    Calls Try.prog 5 #[.int .i64 x, .int .i64 y, .int .i64 old, .slice A N c] w fun e w' => e = .returned (.bool true) ∧ Below w.heap.size w w' := by
  have R : Hid (Rd w A N 1 (iL xs)) := by have := h.rd; rw [show xs.flatMap fI = iL xs from iL_flat xs] at this; exact this
  have LN := Mm.hid h.len
  have hcap : N ≤ c := h.cap
  clear h
  go_enter Try.func5, Try.ntmps5
  go_wp2_with fail
  refine (made_any x _).mono ?_
  rintro e w1 ⟨g, n, F, hn1, hn2, rfl, M⟩
  go_wp2_with fail
  refine (pick_any y n _ hn1 (by omega)).mono ?_
  rintro e w1' ⟨a, ha, rfl, rfl, -⟩
  have x0 : Hid ((Cm.made n).ws[a]? = some 0) := by show _ = _; simp [Cm.made, ha]
  have s0 := Mm.hid (store_ws (y := old) x0.out (by decide))
  have l0 := Mm.hid (look_good x0.out (by decide)).1
  have t0 : Hid ((Cm.made n).tr.length = 3 ∧ (Cm.made n).bad = 0) := ⟨rfl, rfl⟩
  have hs1 : w.heap.size ≤ w1.heap.size := M.out.2.2.size
  go_wp2_with fail
  refine (store_any w.heap.size g F _ a _ old M.out.2.1 hs1 (by rw [t0.out.2]; omega) (by rw [t0.out.1]; omega)).mono ?_
  rintro e w2 ⟨rfl, F2, M2, S2, R2⟩
  rw [l0.out]
  have A0 : Hid (At2 w.heap.size g w w2 a old 4 0) := ⟨F2, _, M2, M.out.2.2.trans (R2.below (fun k hk => (M.out.2.1.lt k hk).1) hs1), by rw [s0.out.1]; exact set_get x0.out, by rw [s0.out.2.2, t0.out.1]; omega, by rw [s0.out.2.1, t0.out.2]; omega⟩
  clear M F M2 S2 R2 x0 s0 l0 t0
  go_wp2_with fail
  have W0 : Hid (WonS old old false) := by
    show ite _ _ _
    by_cases h : old = poison
    · rw [if_pos h]; exact ⟨h, rfl⟩
    · rw [if_neg h]; exact ⟨fun _ => rfl, fun h => by cases h⟩
  go_loopw [13, 14] (fun s i wr => ∃ (k : Nat) (z : Int) (b : Bool), k ≤ N ∧ i = .int .i64 (k : Nat) ∧ s = .bool b ∧ Hid (At2 w.heap.size g w wr a z (4 + k) k ∧ WonS old z b)) (fun _ i _ => N - (intOf i).toNat)
  case atStart => exact ⟨0, old, false, Nat.zero_le _, rfl, rfl, A0.out, W0.out⟩
  case round =>
    obtain ⟨k, z, b, hk, rfl, rfl, HA⟩ := hrel
    clear A0 W0
    obtain ⟨F, S, m1, m2, m3, m5, m6⟩ := HA.out.1.out
    have M1 := Mm.hid m1
    have B1 := Mm.hid m2
    have X1 := Mm.hid m3
    have hs : w.heap.size ≤ wr.heap.size := m2.size
    have hb0 : Hid (S.bad ≤ k ∧ S.tr.length ≤ 4 + k) := ⟨m6, m5⟩
    have W1 := Mm.hid HA.out.2
    clear m1 m2 m3 m5 m6 HA
    by_cases hlt : k < N
    · obtain ⟨q, hq⟩ : ∃ q, xs[k]? = some q := ⟨_, List.getElem?_eq_getElem (by rw [LN.out]; exact hlt)⟩
      obtain ⟨ad, rfl, _, f1⟩ := (R.out.below B1.out).cell (iL_get hq)
      clear hq
      by_cases hqo : q = old
      · have hqb : (q == old) = true := beq_iff_eq.2 hqo
        have A2 : Hid (At2 w.heap.size g w wr a z (4 + (k + 1)) (k + 1)) := ⟨F, S, M1.out, B1.out, X1.out, by have := hb0.out.2; omega, by have := hb0.out.1; omega⟩
        clear hqo
        go_wp2
        go_roundw
        case rel => exact ⟨k + 1, z, b, by omega, by go_num, rfl, A2.out, W1.out⟩
        case measure => simp [intOf] <;> omega
      · have hqb : (q == old) = false := beq_eq_false_iff_ne.2 hqo
        have hqo' := Mm.hid hqo
        clear hqo
        have two : ∀ (w2 : World) (s : Int), Turns w.heap.size F wr g (S.swap a old q) w2 → (S.swap a old q).ws[a]? = some s → (S.swap a old q).tr.length = S.tr.length + 1 → (S.swap a old q).bad ≤ S.bad + 1 → At2 w.heap.size g w w2 a s (4 + (k + 1)) (k + 1) := fun w2 s ht h1 h2 h3 => by
          obtain ⟨F2, M2, S2, R2⟩ := ht.out
          exact ⟨F2, _, M2, B1.out.trans (R2.below (fun k hk => (M1.out.lt k hk).1) hs), h1, by have := hb0.out.2; omega, by have := hb0.out.1; omega⟩
        have TWO := Mm.hid two
        clear two
        by_cases hop : old = poison
        · have hob : (old == -4611686018427387904) = true := beq_iff_eq.2 hop
          have hz : z = poison ∧ b = false := by have := W1.out; unfold WonS at this; rwa [if_pos hop] at this
          obtain ⟨hz1, hz2⟩ := hz
          subst hz2
          obtain ⟨s1, s2, s3, s4, s5⟩ := swap_fail (old := old) (y := q) X1.out (.inl hz1)
          have S1 := Mm.hid s1
          have S2 := Mm.hid s2
          have S3 : Hid (∀ w2, Turns w.heap.size F wr g (S.swap a old q) w2 → At2 w.heap.size g w w2 a z (4 + (k + 1)) (k + 1)) := fun w2 ht => TWO.out w2 z ht (by rw [s3]; exact X1.out) s4 s5
          have hzb : (z == -4611686018427387904) = true := beq_iff_eq.2 hz1
          have hzn : (z != -4611686018427387904) = false := by rw [bne, hzb]; rfl
          clear s1 s2 s3 s4 s5 hz1 hop
          go_wp2_with fail
          refine (swap_any w.heap.size g F S a _ old q M1.out hs (by have := hb0.out.1; omega) (by have := hb0.out.2; omega)).mono ?_
          rintro e w2 ⟨rfl, ht⟩
          rw [S1.out, S2.out]
          have A2 := Mm.hid (S3.out w2 ht)
          clear ht
          go_wp2
          go_roundw
          case rel => exact ⟨k + 1, z, false, by omega, by go_num, rfl, A2.out, W1.out⟩
          case measure => simp [intOf] <;> omega
        · have hob : (old == -4611686018427387904) = false := beq_eq_false_iff_ne.2 hop
          have hw : Won old b z := by have := W1.out; unfold WonS at this; rwa [if_neg hop] at this
          cases b
          · have hz : z = old := hw.1 rfl
            subst hz
            obtain ⟨s1, s2, s3, s4, s5⟩ := swap_done (y := q) X1.out hop
            have S1 := Mm.hid s1
            have S2 := Mm.hid s2
            have S3 : Hid (∀ w2, Turns w.heap.size F wr g (S.swap a z q) w2 → At2 w.heap.size g w w2 a q (4 + (k + 1)) (k + 1)) := fun w2 ht => TWO.out w2 q ht (by rw [s3]; exact set_get X1.out) s4 s5
            have W2 : Hid (WonS z q true) := by show ite _ _ _; rw [if_neg hop]; exact ⟨fun h => (by cases h), fun _ => hqo'.out⟩
            clear s1 s2 s3 s4 s5 hop hw W1
            go_wp2_with fail
            refine (swap_any w.heap.size g F S a _ z q M1.out hs (by have := hb0.out.1; omega) (by have := hb0.out.2; omega)).mono ?_
            rintro e w2 ⟨rfl, ht⟩
            rw [S1.out, S2.out]
            have A2 := Mm.hid (S3.out w2 ht)
            clear ht
            go_wp2
            go_roundw
            case rel => exact ⟨k + 1, q, true, by omega, by go_num, rfl, A2.out, W2.out⟩
            case measure => simp [intOf] <;> omega
          · have hz : z ≠ old := hw.2 rfl
            have hzb : (z == old) = false := beq_eq_false_iff_ne.2 hz
            obtain ⟨s1, s2, s3, s4, s5⟩ := swap_fail (old := old) (y := q) X1.out (.inr hz)
            have S1 := Mm.hid s1
            have S2 := Mm.hid s2
            have X2 : Hid ((S.swap a old q).ws[a]? = some z) := by show _ = _; rw [s3]; exact X1.out
            have S4 := Mm.hid (And.intro s4 s5)
            obtain ⟨w1', w2'⟩ := words_one X2.out
            have V1 := Mm.hid w1'
            have V2 := Mm.hid w2'
            clear s1 s2 s3 s4 s5 hop hw hz w1' w2'
            go_wp2_with fail
            refine (swap_any w.heap.size g F S a _ old q M1.out hs (by have := hb0.out.1; omega) (by have := hb0.out.2; omega)).mono ?_
            rintro e w2 ⟨rfl, ht⟩
            rw [S1.out, S2.out]
            have A2 := Mm.hid (TWO.out w2 z ht X2.out S4.out.1 S4.out.2)
            obtain ⟨F2, M2, _, R2⟩ := ht.out
            have MM := Mm.hid M2
            have BB := Mm.hid (B1.out.trans (R2.below (fun k hk => (M1.out.lt k hk).1) hs))
            clear ht M2 R2
            go_wp2_with fail
            refine (words_any w.heap.size g F2 _ a 1 _ MM.out (by decide)).mono ?_
            rintro e w3 ⟨A3, m3, c3, rfl, hc3, O3⟩
            rw [V2.out]
            obtain ⟨o1, o2, o3⟩ := O3.out
            rw [V1.out] at o1 o2
            simp only [List.length_cons, List.length_nil] at o1
            obtain rfl : m3 = 1 := by omega
            obtain ⟨g3, cap3, hA3, _, _, _, hcell, _⟩ := own_blk o2 (by decide)
            injection hA3 with e1 _ e3
            subst e1
            subst e3
            have f3 : w3.cell? ⟨g3, 0, none⟩ = some (.int .i64 z) := hcell 0 _ rfl
            have A3' : Hid (At2 w.heap.size g w w3 a z (4 + (k + 1)) (k + 1)) := by
              obtain ⟨F', S', a1, a2, a3⟩ := A2.out.out
              exact ⟨F', S', a1.below o3, a2.trans (o3.mono a2.size), a3⟩
            clear O3 o1 o2 o3 hcell A2
            go_wp2
            go_roundw
            case rel => exact ⟨k + 1, z, true, by omega, by go_num, rfl, A3'.out, W1.out⟩
            case measure => simp [intOf] <;> omega
    · go_wp2
      go_ret
      exact ⟨rfl, B1.out⟩
end Go.Proofs.Ytkbobgblohohcaa

/- Walks: words as they stand; the trace. -/
import Derived.Test.YtkbobgblohohcaaOver
namespace Go.Proofs.Ytkbobgblohohcaa
open Go.RowKit Go.Mm Go.Cells
def TakeEnds (B gb g : Nat) (l : List Int) (w : World) (e : Ending) (w' : World) : Prop :=
  e = .returned (.tuple #[]) ∧ ∃ v1, Blk w' gb 135 #[.pointer (some ⟨g, 0, none⟩), v1] ∧ w'.ownsRow B 3 1 v1 l.length (iL l) ∧ Fr (fun k => B ≤ k) w w'
set_option maxRecDepth 100000 in
set_option maxHeartbeats 2000000 in
theorem take_any (base g B gb i n : Nat) (F : Nat → Prop) (S : Cm) (x : Int) (v : Value) (l : List Int) (w : World) (h : MemB base F w g S) (hx : S.ws[i]? = some x) (hb : Blk w gb 135 #[.pointer (some ⟨g, 0, none⟩), v]) (hl : l.length = n) (ho : w.ownsRow B 3 1 v n (iL l)) (hB : B ≤ gb) (hn : n ≤ 65536) :
    Calls Try.prog 74 #[.pointer (some ⟨gb, 0, none⟩), .int .i64 (i : Int)] w (TakeEnds B gb g (l ++ [x]) w) := by
  obtain ⟨m, hm⟩ : ∃ m, S.ws.length = m := ⟨_, rfl⟩
  have him : i < m := by rw [← hm]; exact (List.getElem?_eq_some_iff.1 hx).1
  have hwl := h.wl
  rw [hm] at hwl
  obtain ⟨gw, cw, c0, hcw, cx, _, _⟩ := h.word hx hm
  obtain ⟨A, c, rfl, hc, _, _⟩ := own_slice ho
  have lgb := hb.lt
  have hne := own_ne ho hb (by decide)
  have d0 : w.cell? ⟨gb, 0, none⟩ = some (.pointer (some ⟨g, 0, none⟩)) := hb.cell 0
  have d1 : w.cell? ⟨gb, 1, none⟩ = some (.slice A n c) := hb.cell 1
  have OL := Mm.hid ho
  have HB := Mm.hid hb
  have NE := Mm.hid hne
  have LN := Mm.hid hl
  have BX := Mm.hid (Blk.new w #[.int .i64 x] 3)
  have OL2 : Hid ((w.alloc (.cells #[.int .i64 x] 3)).drew.ownsRow B 3 1 (.slice A n c) n (iL l)) := (OL.out.alloc _).drew
  have FA : Hid (Fr (fun k => B ≤ k) w (w.alloc (.cells #[.int .i64 x] 3)).drew) := (Fr.alloc _ w (.cells #[.int .i64 x] 3)).trans (Fr.drew (fun _ => False) _) (fun _ _ h => h.elim)
  have GK : Hid ((w.alloc (.cells #[.int .i64 x] 3)).drew.heap[gb]? = w.heap[gb]?) := Below.heap_alloc w _ gb lgb
  have hsB : Hid (B ≤ (w.alloc (.cells #[.int .i64 x] 3)).drew.heap.size) := Mm.hid (by have := FA.out.size; omega)
  have lg2 : Hid (gb < (w.alloc (.cells #[.int .i64 x] 3)).drew.heap.size) := Mm.hid (Nat.lt_of_lt_of_le lgb FA.out.size)
  have hone : ∀ u ∈ (#[Value.int .i64 x] : Array Value).toList, u.oneCell' = true := by simp; rfl
  have HO := Mm.hid hone
  have hn' : (n + 1) * 8 ≤ 140737488355328 := by omega
  clear h hx hb hl ho hne hone hm
  have hi0 : (0 : Int) ≤ (i : Int) := by omega
  have hi1 : (i : Int) < (m : Int) := by omega
  go_enter Try.func74, Try.ntmps74
  go_wp2_with fail
  go_region_law ((refine step_ape1 B rfl (.tmp 8) (.tmp 19) 30 3 (.int .i64 0) 1 8 #[.int .i64 x] w.heap.size rfl Try.underlying30 info3 rfl (by decide) (by decide) (.slice A n c) n _ rfl rfl (BX.out.keep rfl) rfl HO.out OL2.out hsB.out hn' ?_; intro v1 w1 k1 k3 k4; have hb1 : Blk w1 gb 135 #[.pointer (some ⟨g, 0, none⟩), .slice A n c] := (HB.out.keep GK.out).keep (k3.block gb lg2.out (fun e => NE.out e.symm)); have e1 : w1.cell? ⟨gb, 1, none⟩ = some (.slice A n c) := hb1.cell 1; have e2 : w1.frozen? ⟨gb, 1, none⟩ = false := hb1.free 1; have K1 := Mm.hid k1; have K3 := Mm.hid k3; have HB1 := Mm.hid hb1; clear k1 k3 k4 hb1; obtain ⟨A1, c1', hv, _⟩ := own_slice K1.out; subst hv))
  all_goals go_end0
  all_goals
    refine ⟨rfl, .slice A1 (n + 1) c1', HB1.out.set 1 _, ?_, (FA.out.trans (Fr.grown K3.out) fun k _ hk => (OL.out.lt k hk).1).trans (Fr.setCell w1 ⟨gb, 1, none⟩ _) fun k _ (e : k = gb) => e ▸ hB⟩
    rw [show (l ++ [x]).length = n + 1 from by simp [LN.out], ← iL_snoc]
    exact (Fr.setCell w1 ⟨gb, 1, none⟩ _).own K1.out fun b hb (e : b = gb) => own_ne K1.out HB1.out (by decide) (by rw [hb, e])
theorem drop_take {l : List Int} {a k : Nat} {x : Int} (h : l[a + k]? = some x) : (l.drop a).take k ++ [x] = (l.drop a).take (k + 1) := by
  rw [List.take_add_one, List.getElem?_drop, h]; rfl
def BaskEnds (B gb g : Nat) (l : List Int) (c : Int) (w : World) (e : Ending) (w' : World) : Prop :=
  e = .returned (.int .i64 c) ∧ ∃ v1, Blk w' gb 135 #[.pointer (some ⟨g, 0, none⟩), v1] ∧ w'.ownsRow B 3 1 v1 l.length (iL l) ∧ Fr (fun k => B ≤ k) w w'
set_option maxHeartbeats 1000000 in
theorem over_take (base g B gb : Nat) (F : Nat → Prop) (S : Cm) (addr n : Int) (w : World) (h : MemB base F w g S) (hnm : n ≤ 9223372036854775807) (hb : Blk w gb 135 #[.pointer (some ⟨g, 0, none⟩), .slice none 0 0]) (hB : B ≤ gb) (hF : ∀ k, F k → k < B) :
    Calls Try.prog 73 #[.pointer (some ⟨g, 0, none⟩), .int .i64 addr, .int .i64 n, .func (.func 74) #[.pointer (some ⟨gb, 0, none⟩)] #[]] w (BaskEnds B gb g (S.words addr n) (S.code addr n) w) := by
  have H := Mm.hid h
  have HF := Mm.hid hF
  have HB := Mm.hid hb
  have nil : ∀ wr : World, wr.ownsRow B 3 1 (.slice none 0 0) 0 (iL []) := fun wr => ⟨by simp [iL], .inl ⟨rfl, rfl⟩⟩
  have NIL := Mm.hid nil
  obtain ⟨vW, vT, h1, h2, h3, h4, h5⟩ := h.out
  have hwl := h.wl
  obtain ⟨m, hm⟩ : ∃ m, S.ws.length = m := ⟨_, rfl⟩
  rw [hm] at h2 hwl
  obtain ⟨A, c, rfl, hc, _, _⟩ := own_slice h2
  have c0 : w.cell? ⟨g, 0, none⟩ = some (.slice A m c) := h1.cell 0
  clear hb nil hF
  by_cases hin : S.within addr n = true
  · obtain ⟨ha, hn0, hle⟩ := (within_iff S addr n).1 hin
    rw [hm] at hle
    have E1 : Hid (S.words addr n = (S.ws.drop addr.toNat).take n.toNat ∧ S.code addr n = 0) := ⟨if_pos hin, if_pos hin⟩
    obtain ⟨a, rfl⟩ := Int.eq_ofNat_of_zero_le ha
    obtain ⟨n, rfl⟩ := Int.eq_ofNat_of_zero_le hn0
    simp only [Int.toNat_natCast] at E1
    have hle' : a + n ≤ m := by omega
    have HM := Mm.hid hm
    clear h h1 h2 h3 h4 h5 hin hm
    go_enter Try.func73, Try.ntmps73
    go_wp2_with fail
    clear c0
    go_loopw [28] (fun i wr => ∃ k : Nat, k ≤ n ∧ i = .int .i64 (k : Nat) ∧ Hid (∃ v, Blk wr gb 135 #[.pointer (some ⟨g, 0, none⟩), v] ∧ wr.ownsRow B 3 1 v k (iL ((S.ws.drop a).take k)) ∧ Fr (fun k => B ≤ k) w wr)) (fun i _ => n - (intOf i).toNat)
    case atStart => exact ⟨0, Nat.zero_le _, rfl, _, HB.out, NIL.out w, Fr.refl _ _⟩
    case round =>
      obtain ⟨k, hk, rfl, HK⟩ := hrel
      by_cases hlt : k < n
      · obtain ⟨v, q1, q2, q3⟩ := HK.out
        have hx : ∃ x, S.ws[a + k]? = some x := ⟨_, List.getElem?_eq_getElem (by rw [HM.out]; omega)⟩
        obtain ⟨x, hx⟩ := hx
        have HX := Mm.hid hx
        have lk : Hid (((S.ws.drop a).take k).length = k) := by show _ = _; simp [HM.out]; omega
        have lk1 : Hid (((S.ws.drop a).take (k + 1)).length = k + 1) := by show _ = _; simp [HM.out]; omega
        have hc1 : ((a : Int) + (k : Int)) = ((a + k : Nat) : Int) := by omega
        have HC := Mm.hid hc1
        have HM1 := Mm.hid (H.out.fr q3 (fun k hk (hb : B ≤ k) => by have := HF.out k hk; omega))
        have Q1 := Mm.hid q1
        have Q2 := Mm.hid q2
        have Q3 := Mm.hid q3
        clear hc1 hx q1 q2 q3 HK
        go_wp2_with fail
        rw [HC.out]
        refine (take_any base g B gb (a + k) k F S x v _ _ HM1.out HX.out Q1.out lk.out Q2.out hB (by omega)).mono ?_
        rintro e w1 ⟨rfl, v1, z1, z2, z3⟩
        rw [drop_take HX.out, lk1.out] at z2
        have M1 := Mm.hid (⟨v1, z1, z2, Q3.out.trans z3 fun _ _ h => h⟩ : ∃ v, Blk w1 gb 135 #[.pointer (some ⟨g, 0, none⟩), v] ∧ w1.ownsRow B 3 1 v (k + 1) (iL ((S.ws.drop a).take (k + 1))) ∧ Fr (fun k => B ≤ k) w w1)
        clear z1 z2 z3 Q1 Q2 Q3 HM1
        go_wp2
        go_roundw
        case rel => exact ⟨k + 1, by omega, by go_num, M1.out⟩
        case measure => simp [intOf] <;> omega
      · have hkn : k = n := by omega
        subst hkn
        have lk : Hid (((S.ws.drop a).take k).length = k) := by show _ = _; simp [HM.out]; omega
        go_wp2
        go_ret
        obtain ⟨v, q1, q2, q3⟩ := HK.out
        exact ⟨by rw [E1.out.2]; rfl, v, q1, by rw [E1.out.1, lk.out]; exact q2, q3⟩
  · have E1 : Hid (S.words addr n = [] ∧ S.code addr n = 140) := ⟨if_neg hin, if_neg hin⟩
    have fin : BaskEnds B gb g (S.words addr n) (S.code addr n) w (.returned (.int .i64 140)) w := ⟨by rw [E1.out.2], _, HB.out, by rw [E1.out.1]; exact NIL.out w, Fr.refl _ _⟩
    have FIN := Mm.hid fin
    rw [within_iff, hm] at hin
    have HI := Mm.hid hin
    clear h h1 h2 h3 h4 h5 hin hm fin
    by_cases q1 : addr < 0
    · go_enter Try.func73, Try.ntmps73
      go_wp2
      go_ret
      exact FIN.out
    by_cases q2 : n < 0
    · go_enter Try.func73, Try.ntmps73
      go_wp2
      go_ret
      exact FIN.out
    have q3 : (m : Int) - n < addr := by have := HI.out; omega
    go_enter Try.func73, Try.ntmps73
    go_wp2
    go_ret
    exact FIN.out
/-- words, told: a list of their own, and the refusal -/
def WordsEnds (w : World) (l : List Int) (c : Int) (e : Ending) (w' : World) : Prop := ∃ A m cp, e = .returned (.tuple #[.slice A m cp, .int .i64 c]) ∧ m ≤ cp ∧ Hid (l.length = m ∧ w'.ownsRow w.heap.size 3 1 (.slice A m cp) m (iL l) ∧ Below w.heap.size w w')
set_option maxHeartbeats 1000000 in
theorem words_any (base g : Nat) (F : Nat → Prop) (S : Cm) (addr n : Int) (w : World) (h : MemB base F w g S) (hnm : n ≤ 9223372036854775807) :
    Calls Try.prog 26 #[.pointer (some ⟨g, 0, none⟩), .int .i64 addr, .int .i64 n] w (WordsEnds w (S.words addr n) (S.code addr n)) := by
  have HB := Mm.hid (Blk.new w #[.pointer (some ⟨g, 0, none⟩), .slice none 0 0] 135)
  have B0 := Mm.hid ((Below.refl w.heap.size w).alloc (Nat.le_refl _) (.cells #[.pointer (some ⟨g, 0, none⟩), .slice none 0 0] 135))
  have H1 := Mm.hid (h.below B0.out)
  have HF := Mm.hid (fun k hk => (h.lt k hk).2)
  clear h
  go_enter Try.func26, Try.ntmps26
  go_wp2_with fail
  refine (over_take base g w.heap.size w.heap.size F S addr n _ H1.out hnm HB.out (Nat.le_refl _) HF.out).mono ?_
  rintro e w1 ⟨rfl, v1, q1, q2, q3⟩
  obtain ⟨A1, c1, rfl, hc1, _, _⟩ := own_slice q2
  have d1 : w1.cell? ⟨w.heap.size, 1, none⟩ = some (.slice A1 (S.words addr n).length c1) := q1.cell 1
  have fin : WordsEnds w (S.words addr n) (S.code addr n) (.returned (.tuple #[.slice A1 (S.words addr n).length c1, .int .i64 (S.code addr n)])) w1 := ⟨_, _, _, rfl, hc1, rfl, q2, B0.out.trans (q3.below (fun _ h => h) (by simp))⟩
  have FIN := Mm.hid fin
  clear q1 q2 q3 fin
  generalize (S.words addr n).length = ln at *
  go_wp2
  go_ret2
  exact FIN.out
end Go.Proofs.Ytkbobgblohohcaa

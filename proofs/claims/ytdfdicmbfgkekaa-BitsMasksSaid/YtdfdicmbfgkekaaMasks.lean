/- BitsMasks: lists lent, masks asked twice, arrays folded. -/
import Derived.Test.YtdfdicmbfgkekaaRmask
import Derived.Test.YtdfdicmbfgkekaaApart
import Derived.Test.YtdfdicmbfgkekaaBack
namespace Go.Proofs.Ytdfdicmbfgkekaa
open Go.RowKit Go.Mm Go.Bs
set_option maxHeartbeats 1000000 in
theorem same8_any (A1 : Option Addr) (n1 c1 : Nat) (A2 : Option Addr) (n2 c2 : Nat) (xs ys : List Nat) (w : World) (h1 : Rd w A1 n1 1 (i8L xs)) (h2 : Rd w A2 n2 1 (i8L ys)) (hc1 : n1 ≤ c1) (hc2 : n2 ≤ c2) (hb : n1 ≤ 4611686018427387904) :
    Calls Try.prog 22 #[.slice A1 n1 c1, .slice A2 n2 c2] w (SameEnds (decide (xs = ys)) w) := by
  have l1 : xs.length = n1 := by have := h1.1; rw [i8L_len] at this; omega
  have l2 : ys.length = n2 := by have := h2.1; rw [i8L_len] at this; omega
  have R1 := Mm.hid h1
  have R2 := Mm.hid h2
  clear h1 h2
  by_cases hn : n1 = n2
  · subst hn
    have L1 := Mm.hid l1
    have L2 := Mm.hid l2
    clear l1 l2
    go_enter Try.func22, Try.ntmps22
    go_wp2_with fail
    go_loopw [5] (fun i wr => ∃ (k d : Nat), k ≤ n1 ∧ i = .int .i64 (k : Nat) ∧ Hid (xs.take k = ys.take k) ∧ wr = w.drewN d) (fun i _ => n1 - (intOf i).toNat)
    case atStart => exact ⟨0, 0, Nat.zero_le _, rfl, by simp [Hid], rfl⟩
    case round =>
      obtain ⟨k, d, hk, rfl, HT, rfl⟩ := hrel
      by_cases hlt : k < n1
      · obtain ⟨x, hx⟩ : ∃ x, xs[k]? = some x := ⟨_, List.getElem?_eq_getElem (by rw [L1.out]; exact hlt)⟩
        obtain ⟨y, hy⟩ : ∃ x, ys[k]? = some x := ⟨_, List.getElem?_eq_getElem (by rw [L2.out]; exact hlt)⟩
        obtain ⟨ad1, rfl, q1, f1⟩ := R1.out.cell (i8L_get hx)
        obtain ⟨ad2, rfl, q2, f2⟩ := R2.out.cell (i8L_get hy)
        clear q1 q2
        have X := Mm.hid hx
        have Y := Mm.hid hy
        clear hx hy
        by_cases hxy : x = y
        · subst hxy
          have T := Mm.hid (take_same HT.out X.out Y.out)
          go_wp2_with fail
          go_quiet (fail)
          go_wp2
          go_roundw
          case rel => exact ⟨k + 1, _, by omega, by go_num, T, rfl⟩
          case measure => simp [intOf] <;> omega
        · have hne : ((x : Int) != (y : Int)) = true := bne_iff_ne.2 (by omega)
          have fin : Hid (decide (xs = ys) = false) := by
            refine decide_eq_false fun e => hxy ?_
            subst e
            have h1 := X.out; have h2 := Y.out
            rw [h1] at h2; injection h2
          clear hxy
          go_wp2_with fail
          go_quiet (fail)
          go_wp2
          go_ret
          rw [fin.out]
          exact ⟨rfl, _, World.drewN_drewN _ _ _⟩
      · have hkn : k = n1 := by omega
        subst hkn
        have fin : Hid (decide (xs = ys) = true) := by
          refine decide_eq_true ?_
          have h := HT.out
          rwa [List.take_of_length_le (by rw [L1.out]; exact Nat.le_refl _), List.take_of_length_le (by rw [L2.out]; exact Nat.le_refl _)] at h
        go_wp2
        go_ret
        rw [fin.out]
        exact ⟨rfl, _, rfl⟩
  · have hne : ((n1 : Int) != (n2 : Int)) = true := bne_iff_ne.2 (by omega)
    have fin : Hid (decide (xs = ys) = false) := decide_eq_false fun e => hn (by rw [← l1, ← l2, e])
    clear hn l1 l2
    go_enter Try.func22, Try.ntmps22
    go_wp2
    go_ret
    rw [fin.out]
    exact ⟨rfl, 0, rfl⟩
/-! ### lists lent -/
def marks (k : Nat) : List Int := (List.range k).map fun i : Nat => 1000 + (i : Int)
theorem marks_snoc (k : Nat) : marks k ++ [1000 + (k : Int)] = marks (k + 1) := by simp [marks, List.range_succ]
theorem marks_len (k : Nat) : (marks k).length = k := by simp [marks]
def lentL (xs : List Int) : List Int := xs ++ marks 64
def LentEnds (xs : List Int) (n : Nat) (w : World) (e : Ending) (w' : World) : Prop := ∃ g c, e = .returned (.slice (some ⟨g, 0, none⟩) (n + 64) c) ∧ n + 64 ≤ c ∧ c ≤ 9223372036854775807 ∧ Hid (w.heap.size ≤ g ∧ w'.ownsRow w.heap.size 3 1 (.slice (some ⟨g, 0, none⟩) (n + 64) c) (n + 64) (iL (lentL xs)) ∧ Below w.heap.size w w')
set_option maxHeartbeats 1000000 in
theorem lent_any (A : Option Addr) (n c : Nat) (xs : List Int) (w : World) (h : Rd w A n 1 (iL xs)) (hn : n ≤ 17592186043904) :
    Calls Try.prog 47 #[.slice A n c] w (LentEnds xs n w) := by
  have R := Mm.hid h
  clear h
  have nil : w.ownsRow w.heap.size 3 1 (.slice none 0 0) 0 [] := ⟨by simp, .inl ⟨rfl, rfl⟩⟩
  have NIL := Mm.hid nil
  clear nil
  go_enter Try.func47, Try.ntmps47
  go_wp2_with (at_builtin; go_must (refine wp_ape w.heap.size rfl (.tmp 5) (.tmp 6) 22 3 (.int .i64 0) 1 8 rfl Try.underlying22 info3 rfl (by decide) (by decide) (.slice none 0 0) 0 [] A n c (iL xs) rfl rfl (by exact R.out) (iL_one xs) (by exact NIL.out) (Below.refl _ _) (Nat.le_refl _) (by omega) ?_))
  intro v1 w1 k1 k2 k3 k4
  have O0 : Hid (w1.ownsRow w.heap.size 3 1 v1 (n + 0) (iL (xs ++ marks 0)) ∧ Below w.heap.size w w1) := by
    refine ⟨?_, k2⟩
    simpa [marks] using k1
  clear k1 k2 k3 k4
  go_wp2_with fail
  go_loopw [3, 4] (fun v i wr => ∃ k : Nat, k ≤ 64 ∧ i = .int .i64 (k : Nat) ∧ Hid (wr.ownsRow w.heap.size 3 1 v (n + k) (iL (xs ++ marks k)) ∧ Below w.heap.size w wr)) (fun _ i _ => 64 - (intOf i).toNat)
  case atStart => exact ⟨0, by omega, rfl, O0.out⟩
  case round =>
    obtain ⟨k, hk, rfl, HK⟩ := hrel
    clear O0
    have hsz := HK.out.2.size
    by_cases hlt : k < 64
    · have hone : ∀ u ∈ (#[Value.int .i64 (1000 + (k : Int))] : Array Value).toList, u.oneCell' = true := by simp; rfl
      have HO := Mm.hid hone
      clear hone
      go_wp2_with (at_builtin; go_must (refine wp_ape1 w.heap.size rfl (.tmp 12) (.tmp 15) 22 3 (.int .i64 0) 1 8 #[.int .i64 (1000 + (k : Int))] rfl Try.underlying22 info3 rfl (by decide) (by decide) u3 (n + k) _ rfl rfl rfl HO.out (by exact HK.out.1) HK.out.2 hsz (by omega) ?_))
      intro v1 w1 k1 k2 k3 k4
      have FN : Hid (w1.ownsRow w.heap.size 3 1 v1 (n + (k + 1)) (iL (xs ++ marks (k + 1))) ∧ Below w.heap.size w w1) := by
        refine ⟨?_, k2⟩
        rw [← marks_snoc, ← List.append_assoc, ← iL_snoc]
        exact k1
      clear k1 k2 k3 k4
      go_wp2
      go_roundw
      case rel => exact ⟨k + 1, by omega, by go_num, FN.out⟩
      case measure => simp [intOf] <;> omega
    · have hk24 : k = 64 := by omega
      subst hk24
      obtain ⟨g, cap, hv, hc, hg, _, _, _⟩ := own_blk HK.out.1 (by omega)
      subst hv
      have hcm : cap ≤ 9223372036854775807 := by
        rcases HK.out.1.2 with ⟨h0, _⟩ | ⟨g', cap', cur, hv, _, _, _, hm, _⟩
        · cases h0
        · injection hv with _ _ e3
          subst e3
          simpa [maxLen] using hm
      have FIN : Hid (w.heap.size ≤ g ∧ wr.ownsRow w.heap.size 3 1 (.slice (some ⟨g, 0, none⟩) (n + 64) cap) (n + 64) (iL (lentL xs)) ∧ Below w.heap.size w wr) := ⟨hg, HK.out.1, HK.out.2⟩
      go_wp2
      go_ret
      exact ⟨g, cap, rfl, hc, hcm, FIN.out⟩
theorem stands_true (A : Option Addr) (n c : Nat) (A' : Option Addr) (c' : Nat) (xs : List Int) (w : World) (h : Rd w A (n + 64) 1 (iL (lentL xs))) (h' : Rd w A' n 1 (iL xs)) (hc : n + 64 ≤ c) (hn : n ≤ 17592186043904) :
    Calls Try.prog 48 #[.slice A (n + 64) c, .slice A' n c'] w fun e w' => e = .returned (.bool true) ∧ Below w.heap.size w w' := by
  have R := Mm.hid h
  have R' := Mm.hid h'
  clear h h'
  go_enter Try.func48, Try.ntmps48
  go_wp2_with fail
  refine (lent_any A' n c' xs _ R'.out hn).mono ?_
  rintro e w1 ⟨g, c1, rfl, hc1, _, H1⟩
  go_wp2_with fail
  refine (same_any A (n + 64) c _ (n + 64) c1 (lentL xs) (lentL xs) _ (R.out.below H1.out.2.2) (Rd.of_own H1.out.2.1) hc hc1 (by omega)).mono ?_
  rintro e w2 ⟨rfl, d, rfl⟩
  have FIN : Hid (Below w.heap.size w (w1.drewN d)) := Mm.hid (H1.out.2.2.trans ((Fr.drewN (fun _ => False) w1 d).below (fun _ h => h.elim) H1.out.2.2.size))
  rw [decide_eq_true (rfl : lentL xs = lentL xs)]
  go_wp2
  go_ret
  exact ⟨rfl, FIN.out⟩
/-- turned about -/
def trn (xs : List Int) : List Int := xs.map fun x => wrap64 (15 - x)
theorem trn_len (xs : List Int) : (trn xs).length = xs.length := by simp [trn]
theorem trn_get {xs : List Int} {k : Nat} {x : Int} (h : xs[k]? = some x) : (trn xs)[k]? = some (wrap64 (15 - x)) := by simp [trn, h]
theorem trn_take (xs : List Int) {k : Nat} {x : Int} (h : xs[k]? = some x) : (trn xs).take k ++ [wrap64 (15 - x)] = (trn xs).take (k + 1) := by rw [List.take_add_one, trn_get h]; rfl
/-- written over up to the place k -/
def half (xs : List Int) (k : Nat) : List Int := (trn xs).take k ++ xs.drop k ++ marks 64
theorem half_set (xs : List Int) {k : Nat} {x : Int} (h : xs[k]? = some x) : (half xs k).set k (wrap64 (15 - x)) = half xs (k + 1) := by
  have hk := (List.getElem?_eq_some_iff.1 h).1
  unfold half
  rw [List.set_append_left _ _ (by simp [trn]; omega), List.set_append_right _ _ (by simp [trn]; omega), List.length_take, trn_len, Nat.min_eq_left (by omega), Nat.sub_self, List.drop_eq_getElem_cons hk, List.set_cons_zero, ← trn_take xs h]
  simp
theorem half_get (xs : List Int) {k : Nat} (h : k < xs.length) : (half xs k)[k]? = xs[k]? := by
  unfold half
  rw [List.getElem?_append_left (by simp [trn]; omega), List.getElem?_append_right (by simp [trn]; omega), List.length_take, trn_len, Nat.min_eq_left (by omega), Nat.sub_self, List.getElem?_drop, Nat.add_zero]
theorem half_zero (xs : List Int) : half xs 0 = lentL xs := by simp [half, lentL]
theorem half_end (xs : List Int) : half xs xs.length = lentL (trn xs) := by
  unfold half lentL
  rw [List.drop_length, List.append_nil, List.take_of_length_le (by rw [trn_len]; exact Nat.le_refl _)]
theorem lent_take (xs : List Int) {n : Nat} (h : xs.length = n) : (iL (lentL xs)).take n = iL xs := by
  rw [iL_take]; unfold lentL; rw [List.take_left' h]
set_option maxRecDepth 100000 in
set_option maxHeartbeats 4000000 in
theorem masked_any (A : Option Addr) (n c : Nat) (xs : List Int) (w : World) (h : Rd w A n 1 (iL xs)) (hl : xs.length = n) (hn : n ≤ 17592186043904) (_hc : n ≤ c) :
    Calls Try.prog 26 #[.slice A n c] w fun e w' => e = .returned (.bool true) ∧ Below w.heap.size w w' := by
  have R := Mm.hid h
  have L := Mm.hid hl
  clear h hl
  obtain ⟨M, hM⟩ : ∃ M, wsum (inL xs) 16 = M := ⟨_, rfl⟩
  obtain ⟨M2, hM2⟩ : ∃ M, wsum (inL (trn xs)) 16 = M := ⟨_, rfl⟩
  have HM := Mm.hid (And.intro hM hM2)
  clear hM hM2
  go_enter Try.func26, Try.ntmps26
  go_wp2_with fail
  refine (rmask_any A n c xs _ R.out L.out hn).mono ?_
  rintro e w' ⟨rfl, rfl⟩
  rw [HM.out.1]
  go_wp2_with fail
  refine (lent_any A n c xs _ R.out hn).mono ?_
  rintro e w1 ⟨g, c1, rfl, hc1, hc2, H1⟩
  have RL : Hid (Rd w1 (some ⟨g, 0, none⟩) n 1 (iL xs)) := Mm.hid (Rd.prefix H1.out.2.1 (lent_take xs L.out) (by omega))
  have R1 := Mm.hid (R.out.below H1.out.2.2)
  go_wp2_with fail
  refine (mask_any _ n c1 xs _ RL.out L.out hn).mono ?_
  rintro e w' ⟨rfl, rfl⟩
  rw [HM.out.1]
  go_wp2_with fail
  refine (mask_any _ n c1 xs _ RL.out L.out hn).mono ?_
  rintro e w' ⟨rfl, rfl⟩
  rw [HM.out.1]
  go_wp2_with fail
  refine (stands_true _ n c1 A c xs _ (Rd.of_own H1.out.2.1) R1.out hc1 hn).mono ?_
  rintro e w2 ⟨rfl, bl2⟩
  have H2 : Hid (w2.ownsRow w.heap.size 3 1 (.slice (some ⟨g, 0, none⟩) (n + 64) c1) (n + 64) (iL (half xs 0)) ∧ Below w.heap.size w w2 ∧ g < w2.heap.size) := by
    rw [half_zero]
    exact Mm.hid ⟨(Fr.of_below bl2).own H1.out.2.1 (fun _ _ h => h), H1.out.2.2.trans (bl2.mono H1.out.2.2.size), Nat.lt_of_lt_of_le (own_lt H1.out.2.1 (b := g) rfl).2 bl2.size⟩
  have nil : Hid (w2.ownsRow w2.heap.size 3 1 (.slice none 0 0) 0 (iL ((trn xs).take 0))) := Mm.hid ⟨by simp [iL], .inl ⟨rfl, rfl⟩⟩
  clear bl2
  go_wp2_with fail
  go_loopw [9, 10] (fun v i wr => ∃ k : Nat, k ≤ n ∧ i = .int .i64 (k : Nat) ∧ Hid (wr.ownsRow w2.heap.size 3 1 v k (iL ((trn xs).take k)) ∧ wr.ownsRow w.heap.size 3 1 (.slice (some ⟨g, 0, none⟩) (n + 64) c1) (n + 64) (iL (half xs k)) ∧ Below w.heap.size w wr ∧ w2.heap.size ≤ wr.heap.size)) (fun _ i _ => n - (intOf i).toNat)
  case atStart => exact ⟨0, by omega, rfl, nil.out, H2.out.1, H2.out.2.1, Nat.le_refl _⟩
  case round =>
    obtain ⟨k, hk, rfl, HK⟩ := hrel
    clear nil
    by_cases hlt : k < n
    · obtain ⟨x, hx⟩ : ∃ x, xs[k]? = some x := ⟨_, List.getElem?_eq_getElem (by have := L.out; omega)⟩
      have HX := Mm.hid hx
      obtain ⟨ad, hA, had, hcell⟩ := (R.out.below HK.out.2.2.1).cell (iL_get hx)
      subst hA
      have hsz := HK.out.2.2.2
      have hone : ∀ u ∈ (#[Value.int .i64 (wrap64 (15 - x))] : Array Value).toList, u.oneCell' = true := by simp; rfl
      have HO := Mm.hid hone
      clear hone hx
      go_wp2_with (at_builtin; go_must (refine wp_ape1 w2.heap.size rfl (.tmp 36) (.tmp 42) 22 3 (.int .i64 0) 1 8 #[.int .i64 (wrap64 (15 - x))] rfl Try.underlying22 info3 rfl (by decide) (by decide) u9 k _ rfl rfl rfl HO.out (by exact HK.out.1) (Below.refl _ _) hsz (by omega) ?_; intro v1 w3 k1 k2 k3 k4; have hB3 : Below w2.heap.size wr w3 := Below.grown (Below.refl _ _) k3 hsz (fun b hb => (own_lt HK.out.1 hb).1); have k5 : w3.ownsRow w2.heap.size 3 1 v1 (k + 1) (iL ((trn xs).take (k + 1))) := (by rw [← trn_take xs HX.out, ← iL_snoc]; exact k1); obtain ⟨gt, ct, hv, _, hgt, _, hcellt, _⟩ := own_blk k5 (by omega); subst hv; have ct1 : w3.cell? ⟨gt, k, none⟩ = some (.int .i64 (wrap64 (15 - x))) := hcellt k _ (iL_get (by rw [List.getElem?_take, if_pos (by omega)]; exact trn_get HX.out)); have o3 : w3.ownsRow w.heap.size 3 1 (.slice (some ⟨g, 0, none⟩) (n + 64) c1) (n + 64) (iL (half xs k)) := (Fr.grown k3).own HK.out.2.1 (fun b hb hb' => by have h1 := (own_lt HK.out.1 hb').1; have h2 := H2.out.2.2; have : g = b := (by simpa [Value.ownBlock] using hb); omega); obtain ⟨g', cap', he, -, -, -, hcellg, hfg⟩ := own_blk o3 (by omega); have hgg : g = g' := (by injection he with he1 he2 he3; injection he1 with he1; injection he1); subst hgg; clear he; have cg1 : w3.cell? ⟨g, k, none⟩ = some (.int .i64 x) := hcellg k _ (iL_get (by rw [half_get xs (by have := L.out; omega)]; exact HX.out)); have fg1 : w3.frozen? ⟨g, k, none⟩ = false := hfg k; have K5 := Mm.hid k5; have O3 := Mm.hid o3; have B3 := Mm.hid hB3; have NE : Hid (gt ≠ g) := Mm.hid (by have h2 := H2.out.2.2; omega); clear k1 k2 k3 k4 k5 o3 hB3 hcellt hcellg hfg))
      have FN : Hid ((w3.setCell ⟨g, k, none⟩ (.int .i64 (wrap64 (15 - x)))).ownsRow w2.heap.size 3 1 (.slice (some ⟨gt, 0, none⟩) (k + 1) ct) (k + 1) (iL ((trn xs).take (k + 1))) ∧ (w3.setCell ⟨g, k, none⟩ (.int .i64 (wrap64 (15 - x)))).ownsRow w.heap.size 3 1 (.slice (some ⟨g, 0, none⟩) (n + 64) c1) (n + 64) (iL (half xs (k + 1))) ∧ Below w.heap.size w (w3.setCell ⟨g, k, none⟩ (.int .i64 (wrap64 (15 - x)))) ∧ w2.heap.size ≤ (w3.setCell ⟨g, k, none⟩ (.int .i64 (wrap64 (15 - x)))).heap.size) := by
        refine Mm.hid ⟨(Fr.setCell w3 ⟨g, k, none⟩ _).own K5.out (fun b hb (e : b = g) => NE.out (by have : gt = b := (by simpa [Value.ownBlock] using hb); omega)), ?_, ?_, ?_⟩
        · have := own_set O3.out k (.int .i64 (wrap64 (15 - x)))
          rw [iL_set, half_set xs HX.out] at this
          exact this
        · have hb := HK.out.2.2.1.trans (B3.out.mono H2.out.2.1.size)
          exact hb.setCell (H1.out.1) _
        · have h1 := B3.out.size
          have h2 : (w3.setCell ⟨g, k, none⟩ (.int .i64 (wrap64 (15 - x)))).heap.size = w3.heap.size := by simp [World.setCell]
          omega
      go_roundw
      case rel => exact ⟨k + 1, by omega, by go_num, FN.out⟩
      case measure => simp [intOf]; omega
    · have hkn : k = n := by omega
      subst hkn
      obtain ⟨A2, c2, hv, hc22, _, hR2⟩ := own_slice HK.out.1
      subst hv
      have HT : Hid (Rd wr A2 k 1 (iL (trn xs)) ∧ (trn xs).length = k) := by
        rw [List.take_of_length_le (by rw [trn_len, L.out]; exact Nat.le_refl _)] at hR2
        exact Mm.hid ⟨hR2, by rw [trn_len, L.out]⟩
      have HG : Hid (wr.ownsRow w.heap.size 3 1 (.slice (some ⟨g, 0, none⟩) (k + 64) c1) (k + 64) (iL (lentL (trn xs)))) := by
        have := HK.out.2.1
        rw [← L.out, half_end, L.out] at this
        exact Mm.hid this
      have RG : Hid (Rd wr (some ⟨g, 0, none⟩) k 1 (iL (trn xs))) := Mm.hid (Rd.prefix HG.out (lent_take _ HT.out.2) (by omega))
      clear hR2
      go_wp2_with fail
      refine (rmask_any A2 k c2 (trn xs) _ HT.out.1 HT.out.2 hn).mono ?_
      rintro e w' ⟨rfl, rfl⟩
      rw [HM.out.2]
      go_wp2_with fail
      refine (mask_any _ k c1 (trn xs) _ RG.out HT.out.2 hn).mono ?_
      rintro e w' ⟨rfl, rfl⟩
      rw [HM.out.2]
      go_wp2_with fail
      refine (stands_true _ k c1 A2 c2 (trn xs) _ (Rd.of_own HG.out) HT.out.1 hc1 hn).mono ?_
      rintro e w4 ⟨rfl, bl4⟩
      have FIN : Hid (Below w.heap.size w w4) := Mm.hid (HK.out.2.2.1.trans (bl4.mono HK.out.2.2.1.size))
      clear bl4
      go_wp2
      go_ret
      exact ⟨rfl, FIN.out⟩
end Go.Proofs.Ytdfdicmbfgkekaa

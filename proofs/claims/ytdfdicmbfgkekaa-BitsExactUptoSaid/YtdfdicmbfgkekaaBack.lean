/- BitsBack: the walk. -/
import Derived.Test.YtdfdicmbfgkekaaSpread
import Derived.Test.YtdfdicmbfgkekaaOne
namespace Go.Proofs.Ytdfdicmbfgkekaa
open Go.RowKit Go.Mm Go.Bs
theorem ml_mem {f : Nat → Bool} {n k : Nat} : k ∈ ml f n ↔ k < n ∧ f k = true := by simp [ml]
theorem ml_rise (f : Nat → Bool) (n : Nat) : (ml f n).Pairwise (· < ·) := List.Pairwise.filter _ List.pairwise_lt_range
theorem ml_next {f : Nat → Bool} {n i a b : Nat} (h1 : (ml f n)[i]? = some a) (h2 : (ml f n)[i + 1]? = some b) : a < b := by
  obtain ⟨l1, e1⟩ := List.getElem?_eq_some_iff.1 h1
  obtain ⟨l2, e2⟩ := List.getElem?_eq_some_iff.1 h2
  have := List.pairwise_iff_getElem.1 (ml_rise f n) i (i + 1) l1 l2 (by omega)
  rw [e1, e2] at this
  exact this
def toI (l : List Nat) : List Int := l.map fun k : Nat => (k : Int)
theorem toI_snoc (l : List Nat) (k : Nat) : toI l ++ [(k : Int)] = toI (l ++ [k]) := by simp [toI]
theorem inL_ml (f : Nat → Bool) (k : Nat) (h : k < 16) : inL (toI (ml f 16)) k = f k := by
  unfold inL toI
  rw [Bool.eq_iff_iff, List.any_eq_true]
  constructor
  · rintro ⟨x, hx, hk⟩
    obtain ⟨j, hj, rfl⟩ := List.mem_map.1 hx
    have : j = k := by have := of_decide_eq_true hk; omega
    subst this
    exact (ml_mem.1 hj).2
  · intro hf
    exact ⟨(k : Int), List.mem_map.2 ⟨k, ml_mem.2 ⟨h, hf⟩, rfl⟩, decide_eq_true rfl⟩
theorem mask_back (m : Nat) (h : m < 65536) : wsum (inL (toI (ml m.testBit 16))) 16 = m := by
  rw [wsum_congr 16 fun j hj => inL_ml m.testBit j hj, testBit_sum m h]
theorem fold_back (m : Nat) (h : m < 65536) : wsum (fun k => sp m.testBit k != 0) 16 = m := by
  rw [wsum_congr (g := m.testBit) 16 fun j _ => by unfold sp; cases m.testBit j <;> rfl, testBit_sum m h]
theorem quad_bits (r : Nat) (S : Nat → Bool) (ho : ∀ i, r ≤ i → S i = false) (k i : Nat) : hasB r S (((256 * k + i : Nat)) : Int) = decide (word S (4 * k + i / 64) / 2 ^ (i % 64) % 2 = 1) := by
  have h := has_word S (256 * k + i)
  rw [show (256 * k + i) / 64 = 4 * k + i / 64 from by omega, show (256 * k + i) % 64 = i % 64 from by omega] at h
  rw [h]
  rcases Nat.lt_or_ge (256 * k + i) r with hr | hr
  · rw [hasB_in hr]; cases S (256 * k + i) <;> rfl
  · rw [hasB_big (by omega), ho _ hr]; rfl
set_option maxRecDepth 100000 in
set_option maxHeartbeats 8000000 in
theorem law_back (m room : Int) (A : Option Addr) (n c : Nat) (xs : List Int) (w : World) (hm : (Lit.int .u16 m).wf = true) (hr : (Lit.int .i64 room).wf = true) (hs : Sl w 1 8 fI gI A n c xs) :
    Calls Try.prog 7 #[.int .u16 m, .int .i64 room, .slice A n c] w fun e w' => e = .returned (.bool true) ∧ Below w.heap.size w w' := by
  have R := Mm.hid (show Rd w A n 1 (iL xs) from by have := hs.rd; rw [show xs.flatMap fI = iL xs from iL_flat xs] at this; exact this)
  have L := Mm.hid hs.len
  have b1 : n ≤ 17592186043904 := by have := hs.room; omega
  have q1 : n ≤ c := hs.cap
  have HW := Mm.hid (wf64 hr)
  have hm2 : 0 ≤ m ∧ m ≤ 65535 := by simpa [Lit.wf, IntKind.min, IntKind.max, IntKind.signed, IntKind.bits] using hm
  obtain ⟨m, rfl⟩ := Int.eq_ofNat_of_zero_le hm2.1
  have hmm : m < 65536 := by omega
  clear hs hr hm hm2
  go_enter Try.func7, Try.ntmps7
  go_wp2_with fail
  refine (fixed_any _).mono ?_
  rintro e w0 ⟨rfl, bl0⟩
  have B0 := Mm.hid bl0
  clear bl0
  go_wp2_with fail
  refine (list_any m hmm _).mono ?_
  rintro e w1 ⟨A1, n1, c1, rfl, hc1, hn1, H1⟩
  have B1 := Mm.hid (B0.out.trans (H1.out.2.2.mono B0.out.size))
  have nil : Hid (w1.ownsRow w1.heap.size 3 1 (.slice none 0 0) 0 (iL (toI ((ml m.testBit 16).take 0)))) := Mm.hid ⟨by simp [iL, toI], .inl ⟨rfl, rfl⟩⟩
  go_wp2_with fail
  go_loopw [9, 10] (fun v i wr => ∃ k : Nat, k ≤ n1 ∧ i = .int .i64 (k : Nat) ∧ Hid (wr.ownsRow w1.heap.size 3 1 v k (iL (toI ((ml m.testBit 16).take k))) ∧ Below w1.heap.size w1 wr)) (fun _ i _ => n1 - (intOf i).toNat)
  case atStart => exact ⟨0, by omega, rfl, nil.out, Below.refl _ _⟩
  case round =>
    obtain ⟨k, hk, rfl, HK⟩ := hrel
    have hsz := HK.out.2.size
    by_cases hlt : k < n1
    · obtain ⟨x, hx⟩ : ∃ x, (ml m.testBit 16)[k]? = some x := ⟨_, List.getElem?_eq_getElem (by have := H1.out.1; omega)⟩
      have hx16 : x < 16 := (ml_mem.1 (List.mem_of_getElem? hx)).1
      have HX := Mm.hid hx
      obtain ⟨g1, cap1, hA1, hcap, hg1, hgl, hcell, _⟩ := own_blk H1.out.2.1 (by omega)
      injection hA1 with e1 _ e3
      subst e1
      subst e3
      have ck : wr.cell? ⟨g1, k, none⟩ = some (.int .i8 (x : Int)) := HK.out.2.cell (p := ⟨g1, k, none⟩) hgl |>.trans (hcell k _ (i8L_get hx))
      have z0 : (0 : Int) ≤ (k : Int) := by omega
      have z1 : (k : Int) < (n1 : Int) := by omega
      have y0 : decide ((x : Int) < 0) = false := decide_eq_false (by omega)
      have y1 : decide ((15 : Int) < (x : Int)) = false := decide_eq_false (by omega)
      have HKD : Hid (∀ m', (wr.drewN m').ownsRow w1.heap.size 3 1 u9 k (iL (toI ((ml m.testBit 16).take k))) ∧ Below w1.heap.size w1 (wr.drewN m') ∧ w1.heap.size ≤ (wr.drewN m').heap.size) := Mm.hid fun m' => ⟨(Fr.drewN (fun _ => False) wr m').own HK.out.1 (fun _ _ h => h), HK.out.2.trans ((Fr.drewN (fun _ => False) wr m').below (fun _ h => h.elim) hsz), hsz⟩
      have hone : ∀ u ∈ (#[Value.int .i64 (x : Int)] : Array Value).toList, u.oneCell' = true := by simp; rfl
      have HO := Mm.hid hone
      have FN : Hid (∀ (w2 : World) (v1 : Value), w2.ownsRow w1.heap.size 3 1 v1 (k + 1) (iL (toI ((ml m.testBit 16).take k)) ++ [.int .i64 (x : Int)]) → w2.ownsRow w1.heap.size 3 1 v1 (k + 1) (iL (toI ((ml m.testBit 16).take (k + 1))))) := Mm.hid fun w2 v1 h => by
        rw [iL_snoc, toI_snoc, show (ml m.testBit 16).take k ++ [x] = (ml m.testBit 16).take (k + 1) from by rw [List.take_add_one, hx]; rfl] at h
        exact h
      clear hone HK
      by_cases hk0 : k = 0
      · subst hk0
        clear hcell hx
        go_wp2_with fail
        go_quiet (fail)
        go_wp2_with (at_builtin; go_must (refine wp_ape1 w1.heap.size rfl (.tmp 54) (.tmp 60) 22 3 (.int .i64 0) 1 8 #[.int .i64 (x : Int)] rfl Try.underlying22 info3 rfl (by decide) (by decide) u9 0 _ rfl rfl rfl HO.out (by exact (HKD.out _).1) (HKD.out _).2.1 (HKD.out _).2.2 (by omega) ?_))
        intro v1 w2 k1 k2 k3 k4
        have F1 : Hid (w2.ownsRow w1.heap.size 3 1 v1 (0 + 1) (iL (toI ((ml m.testBit 16).take (0 + 1)))) ∧ Below w1.heap.size w1 w2) := ⟨FN.out _ _ k1, k2⟩
        clear k1 k2 k3 k4
        go_wp2
        go_roundw
        case rel => exact ⟨0 + 1, by omega, by go_num, F1.out⟩
        case measure => simp [intOf]; omega
      · obtain ⟨p, rfl⟩ : ∃ p, k = p + 1 := ⟨k - 1, by omega⟩
        obtain ⟨y, hy⟩ : ∃ y, (ml m.testBit 16)[p]? = some y := ⟨_, List.getElem?_eq_getElem (by have := H1.out.1; omega)⟩
        have hyx := ml_next hy hx
        have cp : wr.cell? ⟨g1, p, none⟩ = some (.int .i8 (y : Int)) := by
          have := (HKD.out 0).2.1.cell (p := ⟨g1, p, none⟩) hgl |>.trans (hcell p _ (i8L_get hy))
          exact this
        have y2 : decide ((x : Int) ≤ (y : Int)) = false := decide_eq_false (by omega)
        have z2 : IntKind.i64.wrap (((p + 1 : Nat) : Int) - 1) = (p : Int) := by rw [IntWalk.i64_in _ (by omega)]; omega
        have z3 : (0 : Int) ≤ (p : Int) := by omega
        have z4 : (p : Int) < (n1 : Int) := by omega
        have z5 : decide ((0 : Int) < ((p + 1 : Nat) : Int)) = true := decide_eq_true (by omega)
        clear hcell hx hy hk0
        go_wp2_with fail
        go_quiet (fail)
        go_wp2_with (at_builtin; go_must (refine wp_ape1 w1.heap.size rfl (.tmp 54) (.tmp 60) 22 3 (.int .i64 0) 1 8 #[.int .i64 (x : Int)] rfl Try.underlying22 info3 rfl (by decide) (by decide) u9 (p + 1) _ rfl rfl rfl HO.out (by exact (HKD.out _).1) (HKD.out _).2.1 (HKD.out _).2.2 (by omega) ?_))
        intro v1 w2 k1 k2 k3 k4
        have F1 : Hid (w2.ownsRow w1.heap.size 3 1 v1 (p + 1 + 1) (iL (toI ((ml m.testBit 16).take (p + 1 + 1)))) ∧ Below w1.heap.size w1 w2) := ⟨FN.out _ _ k1, k2⟩
        clear k1 k2 k3 k4
        go_wp2
        go_roundw
        case rel => exact ⟨p + 1 + 1, by omega, by go_num, F1.out⟩
        case measure => simp [intOf]; omega
    · have hkn : k = n1 := by omega
      subst hkn
      obtain ⟨A2, c2, hv, hc2, _, hRD⟩ := own_slice HK.out.1
      subst hv
      have hlen : Hid ((toI (ml m.testBit 16)).length = k) := Mm.hid (by simp [toI]; exact H1.out.1)
      have HRD : Hid (Rd wr A2 k 1 (iL (toI (ml m.testBit 16)))) := by rw [List.take_of_length_le (by rw [H1.out.1]; exact Nat.le_refl _)] at hRD; exact hRD
      have B2 := Mm.hid (B1.out.trans (HK.out.2.mono B1.out.size))
      clear hRD HK
      go_wp2_with fail
      refine (spread_any m hmm _).mono ?_
      rintro e w2 ⟨rfl, bl2⟩
      have RD2 := Mm.hid (HRD.out.below bl2)
      have B3 := Mm.hid (B2.out.trans (bl2.mono B2.out.size))
      clear bl2 HRD
      have Z1 : Hid (Blk (w2.alloc (.cells (a16 fun _ => 0) 36)) w2.heap.size 36 (a16 fun _ => 0)) := Mm.hid (Blk.new _ _ _)
      have Z2 : Hid (Below w2.heap.size w2 (w2.alloc (.cells (a16 fun _ => 0) 36))) := Mm.hid ((Below.refl _ _).alloc (Nat.le_refl _) _)
      have Z3 : Hid (Blk ((w2.alloc (.cells (a16 fun _ => 0) 36)).setCells w2.heap.size 0 (a16 (sp m.testBit)).toList) w2.heap.size 36 (a16 (sp m.testBit)) ∧ Below w2.heap.size w2 ((w2.alloc (.cells (a16 fun _ => 0) 36)).setCells w2.heap.size 0 (a16 (sp m.testBit)).toList)) :=
        Mm.hid ⟨Blk.setAll Z1.out (by simp [a16_size]), Z2.out.trans ((Fr.sets w2.heap.size _ 0 _).below (fun j (e : j = w2.heap.size) => by omega) Z2.out.size)⟩
      rw [← zero16] at Z1 Z2 Z3
      obtain ⟨w3, hw3⟩ : ∃ w3, (w2.alloc (.cells #[.int .i8 0, .int .i8 0, .int .i8 0, .int .i8 0, .int .i8 0, .int .i8 0, .int .i8 0, .int .i8 0, .int .i8 0, .int .i8 0, .int .i8 0, .int .i8 0, .int .i8 0, .int .i8 0, .int .i8 0, .int .i8 0] 36)).setCells w2.heap.size 0 (a16 (sp m.testBit)).toList = w3 := ⟨_, rfl⟩
      rw [hw3] at Z3
      have HW3 := Mm.hid hw3
      clear hw3
      have TH := Mm.hid (Blk.there Z1.out (n := (a16 (sp m.testBit)).size) (by rw [a16_size]; exact Nat.le_refl 16))
      go_wp2_with (refine wpList_store_mid rfl 36 (.tmp 11) (.tmp 63) rfl w2.heap.size 0 (a16 (sp m.testBit)) rfl rfl (by exact TH.out) (by rw [a16_size]; exact size36) (a16_one _) ?_; rw [HW3.out])
      have MB := Mm.hid (mask_back m hmm)
      have FB := Mm.hid (fold_back m hmm)
      have B4 := Mm.hid (B3.out.trans (Z3.out.2.mono B3.out.size))
      refine (mask_any A2 k c2 _ _ (RD2.out.below Z3.out.2) hlen.out (by omega)).mono ?_
      rintro e w' ⟨rfl, rfl⟩
      rw [MB.out]
      go_wp2_with fail
      refine (fold_any w2.heap.size _ _ Z3.out.1).mono ?_
      rintro e w' ⟨rfl, rfl⟩
      rw [FB.out]
      go_wp2_with fail
      refine (made_any room A n c xs _ HW.out (R.out.below B4.out) L.out b1 q1).mono ?_
      rintro e w5 ⟨a, g, rfl, H5⟩
      obtain ⟨r, hr⟩ : ∃ r, roomOf room = r := ⟨_, rfl⟩
      have hrl : r ≤ 65536 := by rw [← hr]; exact roomOf_le room
      rw [hr] at H5
      obtain ⟨S, hS⟩ : ∃ S, addAll r none0 xs = S := ⟨_, rfl⟩
      rw [hS] at H5
      have S5 : Hid (SetB w5 a g r S ∧ Below w.heap.size w w5) := ⟨H5.out.1, B4.out.trans (H5.out.2.1.mono B4.out.size)⟩
      clear hr hS H5
      obtain ⟨N, hN⟩ : ∃ N, (r + 255) / 256 = N := ⟨_, rfl⟩
      have hN256 : N ≤ 256 := by omega
      have HN := Mm.hid hN
      have hrN : (r : Int) + 255 < 256 * (N : Int) + 256 := by omega
      clear hN
      go_wp2_with fail
      go_loopw [13] (fun i wr => ∃ k : Nat, k ≤ N ∧ i = .int .i64 (k : Nat) ∧ Hid (Below w5.heap.size w5 wr)) (fun i _ => N - (intOf i).toNat)
      case atStart => exact ⟨0, by omega, rfl, Below.refl _ _⟩
      case round =>
        obtain ⟨j, hj, rfl, HJ⟩ := hrel
        have SJ := Mm.hid (S5.out.1.below HJ.out)
        by_cases hjn : j < N
        · have HQ : Hid (quadV r S j = .tuple #[four S j, .bool true]) := Mm.hid (if_pos (by have := HN.out; omega))
          go_wp2_with fail
          refine (quad_any a g r S j _ SJ.out).mono ?_
          rintro e w6 ⟨rfl, b6⟩
          rw [HQ.out]
          unfold four wv
          have B6 := Mm.hid (HJ.out.trans (b6.mono HJ.out.size))
          have S6 := Mm.hid (SJ.out.below b6)
          clear b6
          go_wp2_with fail
          have K7 : Hid (∀ t, t < 4 → (w6.alloc (.cells #[.int .u64 ((word S (4 * j) : Nat) : Int), .int .u64 ((word S (4 * j + 1) : Nat) : Int), .int .u64 ((word S (4 * j + 2) : Nat) : Int), .int .u64 ((word S (4 * j + 3) : Nat) : Int)] 64)).cell? ⟨w6.heap.size, t, none⟩ = some (.int .u64 ((word S (4 * j + t) : Nat) : Int))) := Mm.hid fun t ht => by
            rw [(Blk.new w6 _ 64).cell]
            rcases t with _ | _ | _ | _ | t
            · rfl
            · rfl
            · rfl
            · rfl
            · omega
          have B7 := Mm.hid (B6.out.alloc B6.out.size (.cells #[.int .u64 ((word S (4 * j) : Nat) : Int), .int .u64 ((word S (4 * j + 1) : Nat) : Int), .int .u64 ((word S (4 * j + 2) : Nat) : Int), .int .u64 ((word S (4 * j + 3) : Nat) : Int)] 64))
          have S7 := Mm.hid (S6.out.below ((Below.refl _ _).alloc (Nat.le_refl _) (.cells #[.int .u64 ((word S (4 * j) : Nat) : Int), .int .u64 ((word S (4 * j + 1) : Nat) : Int), .int .u64 ((word S (4 * j + 2) : Nat) : Int), .int .u64 ((word S (4 * j + 3) : Nat) : Int)] 64)))
          generalize hw7 : w6.alloc (.cells #[.int .u64 ((word S (4 * j) : Nat) : Int), .int .u64 ((word S (4 * j + 1) : Nat) : Int), .int .u64 ((word S (4 * j + 2) : Nat) : Int), .int .u64 ((word S (4 * j + 3) : Nat) : Int)] 64) = w7 at *
          clear hw7
          go_loopw [16] (fun i wr => ∃ t : Nat, t ≤ 256 ∧ i = .int .i64 (t : Nat) ∧ Hid (∃ m', wr = w7.drewN m')) (fun i _ => 256 - (intOf i).toNat)
          case atStart => exact ⟨0, by omega, rfl, 0, rfl⟩
          case round =>
            obtain ⟨t, ht, rfl, HT⟩ := hrel
            have SR : Hid (SetB wr a g r S) := Mm.hid (by obtain ⟨m', rfl⟩ := HT.out; exact S7.out.drewN m')
            by_cases htl : t < 256
            · obtain ⟨q, hq⟩ : ∃ q, t / 64 = q := ⟨_, rfl⟩
              obtain ⟨d, hd⟩ : ∃ d, t % 64 = d := ⟨_, rfl⟩
              have ct : wr.cell? ⟨w6.heap.size, q, none⟩ = some (.int .u64 ((word S (4 * j + q) : Nat) : Int)) := by obtain ⟨m', rfl⟩ := HT.out; exact K7.out _ (by omega)
              have QB := Mm.hid (quad_bits r S S7.out.out j t)
              rw [hq, hd] at QB
              have p1 : (0 : Int) ≤ (q : Int) := by omega
              have p2 : (q : Int) < 4 := by omega
              have p3 : (0 : Int) ≤ (d : Int) := by omega
              have p4 : (d : Int) < 64 := by omega
              have e1 : (t : Int).tdiv 64 = (q : Int) := by rw [Int.tdiv_eq_ediv_of_nonneg (by omega)]; omega
              have e2 : (t : Int).tmod 64 = (d : Int) := by rw [Int.tmod_eq_emod_of_nonneg (by omega)]; omega
              have e3 : IntKind.i64.wrap (q : Int) = (q : Int) := IntWalk.i64_in _ (by omega)
              have e4 : wrap64 (q : Int) = (q : Int) := by unfold wrap64; omega
              clear hq hd
              obtain ⟨bb, hbb⟩ : ∃ b, hasB r S ((256 * j + t : Nat) : Int) = b := ⟨_, rfl⟩
              have HBB : Hid (hasB r S ((256 * j + t : Nat) : Int) = bb ∧ decide (word S (4 * j + q) / 2 ^ d % 2 = 1) = bb) := Mm.hid ⟨hbb, by rw [← QB.out, hbb]⟩
              have f1 : ((((word S (4 * j + q) : Nat) : Int) / 2 ^ d).tmod 2 == 1) = bb := by
                rw [← HBB.out.2, show (((word S (4 * j + q) : Nat) : Int) / 2 ^ d) = ((word S (4 * j + q) / 2 ^ d : Nat) : Int) from by simp]
                generalize word S (4 * j + q) / 2 ^ d = u
                rw [Int.tmod_eq_emod_of_nonneg (by omega), Bool.eq_iff_iff, beq_iff_eq, decide_eq_true_iff]
                omega
              clear hbb
              have HH : Hid (∀ n', Calls Try.prog 12 #[.pointer (some ⟨a, 0, none⟩), .int .i64 (256 * (j : Int) + (t : Int))] (wr.drewN n') fun e w' => e = .returned (.bool bb) ∧ ∃ n'', w' = wr.drewN n'') := Mm.hid fun n' => by
                have := has_any a g r S ((256 * j + t : Nat) : Int) _ (SR.out.drewN n')
                rw [HBB.out.1, show ((256 * j + t : Nat) : Int) = 256 * (j : Int) + (t : Int) from by omega] at this
                exact this.mono fun _ _ ⟨h1, h2⟩ => ⟨h1, n', h2.symm⟩
              have s1 : IntKind.i64.wrap (256 * (j : Int)) = 256 * (j : Int) := IntWalk.i64_in _ (by omega)
              have s2 : IntKind.i64.wrap (256 * (j : Int) + (t : Int)) = 256 * (j : Int) + (t : Int) := IntWalk.i64_in _ (by omega)
              go_wp2_with fail
              go_quiet ((go_at_call 12; exact HH.out _))
              go_wp2
              go_roundw
              case rel => exact ⟨t + 1, by omega, by go_num, by obtain ⟨m', rfl⟩ := HT.out; exact ⟨_, World.drewN_drewN _ _ _⟩⟩
              case measure => simp [intOf]; omega
            · have ht2 : t = 256 := by omega
              subst ht2
              have BR : Hid (Below w5.heap.size w5 wr) := Mm.hid (by obtain ⟨m', rfl⟩ := HT.out; exact B7.out.trans ((Fr.drewN (fun _ => False) w7 m').below (fun _ h => h.elim) B7.out.size))
              go_wp2
              go_roundw
              case rel => exact ⟨j + 1, by omega, by go_num, BR.out⟩
              case measure => simp [intOf]; omega
        · have hjn : j = N := by omega
          subst hjn
          have HQ : Hid (quadV r S j = .tuple #[four0, .bool false]) := Mm.hid (if_neg (by have := HN.out; omega))
          have HE : Hid (((r : Int) + 255) / 256 = (j : Int)) := Mm.hid (by have := HN.out; omega)
          go_wp2_with fail
          refine (quad_any a g r S j _ SJ.out).mono ?_
          rintro e w6 ⟨rfl, b6⟩
          rw [HQ.out]
          unfold four0
          have B6 := Mm.hid (HJ.out.trans (b6.mono HJ.out.size))
          have S6 := Mm.hid ((SJ.out.below b6).below ((Below.refl _ _).alloc (Nat.le_refl _) (.cells #[.int .u64 0, .int .u64 0, .int .u64 0, .int .u64 0] 64)))
          clear b6
          go_wp2_with fail
          refine (room_any a g r S _ S6.out).mono ?_
          rintro e w' ⟨rfl, rfl⟩
          have hbe : ((j : Int) == ((r : Int) + 255) / 256) = true := by rw [HE.out]; simp
          go_wp2
          go_ret
          exact ⟨rfl, (S5.out.2.trans (B6.out.mono S5.out.2.size)).alloc (Nat.le_trans S5.out.2.size B6.out.size) _⟩
end Go.Proofs.Ytdfdicmbfgkekaa

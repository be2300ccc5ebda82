/- Walks: the document's memory: poison, clear, words. -/
import Derived.Test.YtkbobgblohohcaaRefC
namespace Go.Proofs.Ytkbobgblohohcaa
open Go.RowKit Go.Mm Go.Cells
section
variable {base r lb : Nat} {F : Nat → Prop} {w : World} {S : Cm}
set_option maxRecDepth 100000 in
set_option maxHeartbeats 1000000 in
theorem rpoison_any (addr n : Int) (h : RMem base F w r lb S) (hnm : n ≤ 9223372036854775807) (hB : base ≤ w.heap.size) (hlb : (lb + 1) * 24 ≤ 140737488355328) :
    Calls Try.prog 80 #[.pointer (some ⟨r, 0, none⟩), .int .i64 addr, .int .i64 n] w (ROpE base F r (lb + 1) (S.fill addr n poison) (.int .i64 (S.code addr n)) w) := by
  have H := Mm.hid h
  obtain ⟨b, hb⟩ : ∃ b, S.within addr n = b := ⟨_, rfl⟩
  have HW := Mm.hid hb
  cases b
  · have E1 : Hid (S.fill addr n poison = S ∧ S.code addr n = 140) := ⟨if_neg (by rw [hb]; decide), if_neg (by rw [hb]; decide)⟩
    clear hb h
    go_enter Try.func80, Try.ntmps80
    go_wp2_with fail
    refine (rwithin_any addr n H.out hnm).mono ?_
    rw [HW.out]
    rintro e w1 ⟨rfl, rfl⟩
    go_wp2
    go_ret
    exact ⟨by rw [E1.out.2]; rfl, by rw [E1.out.1]; exact RT.of (H.out.mono (Nat.le_succ lb))⟩
  · have E1 : Hid (S.fill addr n poison = ⟨fillL S.ws addr.toNat n.toNat poison, S.tr, S.bad⟩ ∧ S.code addr n = 0) := ⟨if_pos hb, if_pos hb⟩
    obtain ⟨ha, hn0, hle⟩ := (within_iff S addr n).1 hb
    obtain ⟨a, rfl⟩ := Int.eq_ofNat_of_zero_le ha
    obtain ⟨n, rfl⟩ := Int.eq_ofNat_of_zero_le hn0
    simp only [Int.toNat_natCast] at E1
    have hle' : a + n ≤ S.ws.length := by omega
    obtain ⟨vL, vE, L, h1, h2, h3, h4, h5, h6, h7⟩ := h.out
    have LK := Mm.hid (h6.fill hle' poison)
    have LL := Mm.hid (fillL_len (x := poison) hle')
    obtain ⟨m, hm⟩ : ∃ m, L.length = m := ⟨_, rfl⟩
    have h2' := h2
    rw [hm] at h2'
    obtain ⟨A, c, rfl, hc, _, _⟩ := own_slice h2'
    have B1 := Mm.hid h1
    have OL := Mm.hid h2
    have OL' := Mm.hid h2'
    have OE := Mm.hid h3
    have FL := Mm.hid h4
    have FE := Mm.hid h5
    have H7 := Mm.hid h7
    have LM := Mm.hid hm
    have c1 : w.cell? ⟨r, 1, none⟩ = some (.slice A m c) := h1.cell 1
    have NE := Mm.hid (own_ne h2 h1 (by decide))
    have HO : Hid (∀ u ∈ (#[Value.int .i64 (a : Int), .int .i64 (n : Int), .int .i64 (-4611686018427387904)] : Array Value).toList, u.oneCell' = true) := by intro u hu; simp at hu; rcases hu with rfl | rfl | rfl <;> rfl
    have hm24 : (m + 1) * 24 ≤ 140737488355328 := by omega
    clear h h1 h2 h2' h3 h4 h5 h6 h7 hm hle hle' hb ha hn0
    go_enter Try.func80, Try.ntmps80
    go_wp2_with fail
    refine (rwithin_any (a : Int) (n : Int) H.out hnm).mono ?_
    rw [HW.out]
    rintro e w1 ⟨rfl, rfl⟩
    go_wp2_with (at_builtin; go_must (refine wp_ape1 base rfl (.tmp 18) (.tmp 22) 139 175 (.agg #[.int .i64 0, .int .i64 0, .int .i64 0]) 3 24 #[.int .i64 (a : Int), .int .i64 (n : Int), .int .i64 (-4611686018427387904)] rfl Try.underlying139 info175 rfl (by decide) (by decide) (.slice A m c) m _ rfl rfl rfl HO.out OL'.out (Below.refl _ _) hB hm24 ?_; intro v1 w7 k1 k2 k3 k4; have hb1 := B1.out.keep (k3.block r B1.out.lt (fun e => NE.out e.symm)); have e1 : w7.cell? ⟨r, 1, none⟩ = some (.slice A m c) := hb1.cell 1; have e2 : w7.frozen? ⟨r, 1, none⟩ = false := hb1.free 1; have FN := Mm.hid (rlog_fin (e := ⟨(a : Int), (n : Int), poison⟩) H.out B1.out OL.out OE.out FL.out FE.out H7.out (Fr.refl _ _) (by rw [LM.out]; exact k1) k3 (k4.imp id fun h => by obtain ⟨b, q1, q2, _⟩ := h; exact ⟨b, q1, q2⟩) LK.out LL.out); have K1 := Mm.hid k1; clear k1 k2 k3 k4 hb1; obtain ⟨A1, c1, hv, _⟩ := own_slice K1.out; subst hv))
    all_goals go_ret
    all_goals exact ⟨by rw [E1.out.2]; rfl, by rw [E1.out.1]; exact FN.out⟩
set_option maxRecDepth 100000 in
set_option maxHeartbeats 1000000 in
theorem rclear_any (addr n : Int) (h : RMem base F w r lb S) (hnm : n ≤ 9223372036854775807) (hB : base ≤ w.heap.size) (hlb : (lb + 1) * 24 ≤ 140737488355328) :
    Calls Try.prog 81 #[.pointer (some ⟨r, 0, none⟩), .int .i64 addr, .int .i64 n] w (ROpE base F r (lb + 1) (S.fill addr n 0) (.int .i64 (S.code addr n)) w) := by
  have H := Mm.hid h
  obtain ⟨b, hb⟩ : ∃ b, S.within addr n = b := ⟨_, rfl⟩
  have HW := Mm.hid hb
  cases b
  · have E1 : Hid (S.fill addr n 0 = S ∧ S.code addr n = 140) := ⟨if_neg (by rw [hb]; decide), if_neg (by rw [hb]; decide)⟩
    clear hb h
    go_enter Try.func81, Try.ntmps81
    go_wp2_with fail
    refine (rwithin_any addr n H.out hnm).mono ?_
    rw [HW.out]
    rintro e w1 ⟨rfl, rfl⟩
    go_wp2
    go_ret
    exact ⟨by rw [E1.out.2]; rfl, by rw [E1.out.1]; exact RT.of (H.out.mono (Nat.le_succ lb))⟩
  · have E1 : Hid (S.fill addr n 0 = ⟨fillL S.ws addr.toNat n.toNat 0, S.tr, S.bad⟩ ∧ S.code addr n = 0) := ⟨if_pos hb, if_pos hb⟩
    obtain ⟨ha, hn0, hle⟩ := (within_iff S addr n).1 hb
    obtain ⟨a, rfl⟩ := Int.eq_ofNat_of_zero_le ha
    obtain ⟨n, rfl⟩ := Int.eq_ofNat_of_zero_le hn0
    simp only [Int.toNat_natCast] at E1
    have hle' : a + n ≤ S.ws.length := by omega
    obtain ⟨vL, vE, L, h1, h2, h3, h4, h5, h6, h7⟩ := h.out
    have LK := Mm.hid (h6.fill hle' 0)
    have LL := Mm.hid (fillL_len (x := 0) hle')
    obtain ⟨m, hm⟩ : ∃ m, L.length = m := ⟨_, rfl⟩
    have h2' := h2
    rw [hm] at h2'
    obtain ⟨A, c, rfl, hc, _, _⟩ := own_slice h2'
    have B1 := Mm.hid h1
    have OL := Mm.hid h2
    have OL' := Mm.hid h2'
    have OE := Mm.hid h3
    have FL := Mm.hid h4
    have FE := Mm.hid h5
    have H7 := Mm.hid h7
    have LM := Mm.hid hm
    have c1 : w.cell? ⟨r, 1, none⟩ = some (.slice A m c) := h1.cell 1
    have NE := Mm.hid (own_ne h2 h1 (by decide))
    have HO : Hid (∀ u ∈ (#[Value.int .i64 (a : Int), .int .i64 (n : Int), .int .i64 0] : Array Value).toList, u.oneCell' = true) := by intro u hu; simp at hu; rcases hu with rfl | rfl | rfl <;> rfl
    have hm24 : (m + 1) * 24 ≤ 140737488355328 := by omega
    clear h h1 h2 h2' h3 h4 h5 h6 h7 hm hle hle' hb ha hn0
    go_enter Try.func81, Try.ntmps81
    go_wp2_with fail
    refine (rwithin_any (a : Int) (n : Int) H.out hnm).mono ?_
    rw [HW.out]
    rintro e w1 ⟨rfl, rfl⟩
    go_wp2_with (at_builtin; go_must (refine wp_ape1 base rfl (.tmp 18) (.tmp 22) 139 175 (.agg #[.int .i64 0, .int .i64 0, .int .i64 0]) 3 24 #[.int .i64 (a : Int), .int .i64 (n : Int), .int .i64 0] rfl Try.underlying139 info175 rfl (by decide) (by decide) (.slice A m c) m _ rfl rfl rfl HO.out OL'.out (Below.refl _ _) hB hm24 ?_; intro v1 w7 k1 k2 k3 k4; have hb1 := B1.out.keep (k3.block r B1.out.lt (fun e => NE.out e.symm)); have e1 : w7.cell? ⟨r, 1, none⟩ = some (.slice A m c) := hb1.cell 1; have e2 : w7.frozen? ⟨r, 1, none⟩ = false := hb1.free 1; have FN := Mm.hid (rlog_fin (e := ⟨(a : Int), (n : Int), 0⟩) H.out B1.out OL.out OE.out FL.out FE.out H7.out (Fr.refl _ _) (by rw [LM.out]; exact k1) k3 (k4.imp id fun h => by obtain ⟨b, q1, q2, _⟩ := h; exact ⟨b, q1, q2⟩) LK.out LL.out); have K1 := Mm.hid k1; clear k1 k2 k3 k4 hb1; obtain ⟨A1, c1, hv, _⟩ := own_slice K1.out; subst hv))
    all_goals go_ret
    all_goals exact ⟨by rw [E1.out.2]; rfl, by rw [E1.out.1]; exact FN.out⟩
set_option maxRecDepth 100000 in
set_option maxHeartbeats 1000000 in
theorem rwords_any (addr n : Int) (h : RMem base F w r lb S) (hnm : n ≤ 9223372036854775807) (hlb : (lb + 1) * 24 ≤ 140737488355328) :
    Calls Try.prog 37 #[.pointer (some ⟨r, 0, none⟩), .int .i64 addr, .int .i64 n] w (WordsEnds w (S.words addr n) (S.code addr n)) := by
  have H := Mm.hid h
  have LB := Mm.hid hlb
  obtain ⟨b, hb⟩ : ∃ b, S.within addr n = b := ⟨_, rfl⟩
  have HW := Mm.hid hb
  have hwl := h.wl
  clear hlb
  cases b
  · have E1 : Hid (S.words addr n = [] ∧ S.code addr n = 140) := ⟨if_neg (by rw [hb]; decide), if_neg (by rw [hb]; decide)⟩
    clear hb h
    go_enter Try.func37, Try.ntmps37
    go_wp2_with fail
    refine (rwithin_any addr n H.out hnm).mono ?_
    rw [HW.out]
    rintro e w1 ⟨rfl, rfl⟩
    go_wp2
    go_ret2
    exact ⟨none, 0, 0, by rw [E1.out.2]; rfl, Nat.le_refl _, by rw [E1.out.1]; exact ⟨rfl, ⟨rfl, .inl ⟨rfl, rfl⟩⟩, Below.refl _ _⟩⟩
  · have E1 : Hid (S.words addr n = (S.ws.drop addr.toNat).take n.toNat ∧ S.code addr n = 0) := ⟨if_pos hb, if_pos hb⟩
    obtain ⟨ha, hn0, hle⟩ := (within_iff S addr n).1 hb
    obtain ⟨a, rfl⟩ := Int.eq_ofNat_of_zero_le ha
    obtain ⟨n, rfl⟩ := Int.eq_ofNat_of_zero_le hn0
    simp only [Int.toNat_natCast] at E1
    obtain ⟨m, hm⟩ : ∃ m, S.ws.length = m := ⟨_, rfl⟩
    rw [hm] at hle hwl
    have hle' : a + n ≤ m := by omega
    have HM := Mm.hid hm
    clear hb h ha hn0 hle hm
    go_enter Try.func37, Try.ntmps37
    go_wp2_with fail
    refine (rwithin_any (a : Int) (n : Int) H.out hnm).mono ?_
    rw [HW.out]
    rintro e w1 ⟨rfl, rfl⟩
    go_wp2_with fail
    go_loopw [9, 10] (fun l i wr => ∃ k : Nat, k ≤ n ∧ i = .int .i64 (k : Nat) ∧ Hid (wr.ownsRow w.heap.size 3 1 l k (iL ((S.ws.drop a).take k)) ∧ Below w.heap.size w wr)) (fun _ i _ => n - (intOf i).toNat)
    case atStart => exact ⟨0, Nat.zero_le _, rfl, ⟨rfl, .inl ⟨rfl, rfl⟩⟩, Below.refl _ _⟩
    case round =>
      obtain ⟨k, hk, rfl, HK⟩ := hrel
      obtain ⟨A, c, rfl, _, _, _⟩ := own_slice HK.out.1
      by_cases hlt : k < n
      · obtain ⟨x, hx⟩ : ∃ x, S.ws[a + k]? = some x := ⟨_, List.getElem?_eq_getElem (by rw [HM.out]; omega)⟩
        have HX := Mm.hid hx
        have O := Mm.hid HK.out.1
        have B := Mm.hid HK.out.2
        have hc1 : ((a : Int) + (k : Int)) = ((a + k : Nat) : Int) := by omega
        have HC := Mm.hid hc1
        have M1 := Mm.hid (H.out.below B.out)
        have hO1 : Hid (∀ u ∈ (#[Value.int .i64 x] : Array Value).toList, u.oneCell' = true) := by intro u hu; simp at hu; rcases hu with rfl; rfl
        clear hx hc1 HK
        go_wp2_with fail
        rw [HC.out]
        refine (rword_any M1.out (a + k) x HX.out LB.out).mono ?_
        rintro e w2 ⟨rfl, hb2⟩
        have O2 := Mm.hid ((Fr.of_below hb2).own O.out (fun _ _ h => h))
        have B2 := Mm.hid (B.out.trans (hb2.mono B.out.size))
        have hsz : w.heap.size ≤ w2.heap.size := B2.out.size
        clear hb2 O B M1
        go_wp2_with (at_builtin; go_must (refine wp_ape1 w.heap.size rfl (.tmp 22) (.tmp 28) 30 3 (.int .i64 0) 1 8 #[.int .i64 x] rfl Try.underlying30 info3 rfl (by decide) (by decide) (.slice A k c) k _ rfl rfl rfl hO1.out O2.out B2.out hsz (by omega) ?_; intro v1 w7 k1 k2 k3 k4; have FN : Hid (w7.ownsRow w.heap.size 3 1 v1 (k + 1) (iL ((S.ws.drop a).take (k + 1))) ∧ Below w.heap.size w w7) := Mm.hid ⟨by have h := k1; rw [show (#[Value.int .i64 x] : Array Value).toList = [.int .i64 x] from rfl, iL_snoc, drop_take HX.out] at h; exact h, k2⟩; clear k1 k2 k3 k4; obtain ⟨A1, c1, hv, _⟩ := own_slice FN.out.1; subst hv))
        all_goals (
          go_roundw
          case rel => exact ⟨k + 1, by omega, by go_num, FN.out⟩
          case measure => simp [intOf] <;> omega)
      · have hkn : k = n := by omega
        subst hkn
        have lk : Hid (((S.ws.drop a).take k).length = k) := by show _ = _; simp [HM.out]; omega
        go_wp2
        go_ret2
        exact ⟨A, k, c, by rw [E1.out.2]; rfl, by assumption, by rw [E1.out.1]; exact ⟨lk.out, HK.out.1, HK.out.2⟩⟩
end
end Go.Proofs.Ytkbobgblohohcaa

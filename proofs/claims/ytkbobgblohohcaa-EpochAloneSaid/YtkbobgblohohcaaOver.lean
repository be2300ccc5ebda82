/- Walks: pieces of words. -/
import Derived.Test.YtkbobgblohohcaaAcc
namespace Go.Proofs.Ytkbobgblohohcaa
open Go.RowKit Go.Mm Go.Cells
def SetEnds (base g : Nat) (F : Nat → Prop) (S : Cm) (i : Nat) (y : Int) (w : World) (e : Ending) (w' : World) : Prop :=
  e = .returned (.tuple #[]) ∧ MemB base F w' g ⟨S.ws.set i y, S.tr, S.bad⟩ ∧ Fr F w w'
section
variable (base g : Nat) (F : Nat → Prop) (S : Cm) (w : World)
theorem spoil_any (i : Nat) (h : MemB base F w g S) (hi : i < S.ws.length) : Calls Try.prog 77 #[.pointer (some ⟨g, 0, none⟩), .int .i64 (i : Int)] w (SetEnds base g F S i poison w) := by
  obtain ⟨n, hnn⟩ : ∃ n, S.ws.length = n := ⟨_, rfl⟩
  have hwl := h.wl
  rw [hnn] at hwl hi
  obtain ⟨x, hx⟩ : ∃ x, S.ws[i]? = some x := ⟨_, List.getElem?_eq_getElem (by omega)⟩
  obtain ⟨gw, c, c0, hc, c1, c2, hset⟩ := h.word (i := i) hx (n := n) hnn
  have HS := Mm.hid (hset poison)
  unfold poison at HS
  clear hset h hnn hx
  go_enter Try.func77, Try.ntmps77
  go_wp2
  go_end0
  exact ⟨rfl, HS.out.1, HS.out.2⟩
theorem wipe_any (i : Nat) (h : MemB base F w g S) (hi : i < S.ws.length) : Calls Try.prog 76 #[.pointer (some ⟨g, 0, none⟩), .int .i64 (i : Int)] w (SetEnds base g F S i 0 w) := by
  obtain ⟨n, hnn⟩ : ∃ n, S.ws.length = n := ⟨_, rfl⟩
  have hwl := h.wl
  rw [hnn] at hwl hi
  obtain ⟨x, hx⟩ : ∃ x, S.ws[i]? = some x := ⟨_, List.getElem?_eq_getElem (by omega)⟩
  obtain ⟨gw, c, c0, hc, c1, c2, hset⟩ := h.word (i := i) hx (n := n) hnn
  have HS := Mm.hid (hset 0)
  clear hset h hnn hx
  go_enter Try.func76, Try.ntmps76
  go_wp2
  go_end0
  exact ⟨rfl, HS.out.1, HS.out.2⟩
end
theorem fillL_len {ws : List Int} {a n : Nat} {x : Int} (h : a + n ≤ ws.length) : (fillL ws a n x).length = ws.length := by
  simp [fillL]; omega
theorem fillL_get {ws : List Int} {a n : Nat} {x : Int} (h : a + n ≤ ws.length) (j : Nat) : (fillL ws a n x)[j]? = if a ≤ j ∧ j < a + n then some x else ws[j]? := by
  unfold fillL
  by_cases h1 : j < a
  · rw [List.getElem?_append_left (by simp; omega), List.getElem?_append_left (by simp; omega), List.getElem?_take, if_pos h1, if_neg (by omega)]
  · by_cases h2 : j < a + n
    · rw [List.getElem?_append_left (by simp; omega), List.getElem?_append_right (by simp; omega), List.getElem?_replicate, if_pos (by simp; omega), if_pos ⟨by omega, h2⟩]
    · rw [List.getElem?_append_right (by simp; omega), List.getElem?_drop, if_neg (by omega)]
      congr 1
      simp
      omega
theorem fillL_zero (ws : List Int) (a : Nat) (x : Int) : fillL ws a 0 x = ws := by simp [fillL]
theorem fillL_succ {ws : List Int} {a n : Nat} {x : Int} (h : a + n < ws.length) : fillL ws a (n + 1) x = (fillL ws a n x).set (a + n) x := by
  apply List.ext_getElem?
  intro j
  rw [fillL_get (by omega), List.getElem?_set, fillL_get (by omega), fillL_len (by omega)]
  by_cases h1 : a + n = j
  · subst h1; simp [h]
  · rw [if_neg h1]
    by_cases h2 : a ≤ j ∧ j < a + n
    · rw [if_pos h2, if_pos (by omega)]
    · rw [if_neg h2, if_neg (by omega)]
theorem within_iff (S : Cm) (addr n : Int) : S.within addr n = true ↔ 0 ≤ addr ∧ 0 ≤ n ∧ addr ≤ S.ws.length - n := by
  unfold Cm.within
  simp
def FillEnds (base g : Nat) (F : Nat → Prop) (S' : Cm) (c : Int) (w : World) (e : Ending) (w' : World) : Prop := e = .returned (.int .i64 c) ∧ MemB base F w' g S' ∧ Fr F w w'
set_option maxHeartbeats 1000000 in
theorem over_spoil (base g : Nat) (F : Nat → Prop) (S : Cm) (addr n : Int) (w : World) (h : MemB base F w g S) (hnm : n ≤ 9223372036854775807) :
    Calls Try.prog 73 #[.pointer (some ⟨g, 0, none⟩), .int .i64 addr, .int .i64 n, .func (.func 77) #[.pointer (some ⟨g, 0, none⟩)] #[]] w (FillEnds base g F (S.fill addr n poison) (S.code addr n) w) := by
  have H := Mm.hid h
  obtain ⟨vW, vT, h1, h2, h3, h4, h5⟩ := h.out
  have hwl := h.wl
  obtain ⟨m, hm⟩ : ∃ m, S.ws.length = m := ⟨_, rfl⟩
  rw [hm] at h2 hwl
  obtain ⟨A, c, rfl, hc, _, _⟩ := own_slice h2
  have c0 : w.cell? ⟨g, 0, none⟩ = some (.slice A m c) := h1.cell 0
  by_cases hin : S.within addr n = true
  · obtain ⟨ha, hn0, hle⟩ := (within_iff S addr n).1 hin
    rw [hm] at hle
    have E1 : Hid (S.fill addr n poison = ⟨fillL S.ws addr.toNat n.toNat poison, S.tr, S.bad⟩ ∧ S.code addr n = 0) := ⟨if_pos hin, if_pos hin⟩
    obtain ⟨a, rfl⟩ := Int.eq_ofNat_of_zero_le ha
    obtain ⟨n, rfl⟩ := Int.eq_ofNat_of_zero_le hn0
    simp only [Int.toNat_natCast] at E1
    have hle' : a + n ≤ m := by omega
    have HM := Mm.hid hm
    clear h h1 h2 h3 h4 h5 hin hm
    go_enter Try.func73, Try.ntmps73
    go_wp2_with fail
    clear c0
    go_loopw [28] (fun i wr => ∃ k : Nat, k ≤ n ∧ i = .int .i64 (k : Nat) ∧ Hid (MemB base F wr g ⟨fillL S.ws a k poison, S.tr, S.bad⟩ ∧ Fr F w wr)) (fun i _ => n - (intOf i).toNat)
    case atStart => exact ⟨0, Nat.zero_le _, rfl, by rw [fillL_zero]; exact H.out, Fr.refl _ _⟩
    case round =>
      obtain ⟨k, hk, rfl, HK⟩ := hrel
      by_cases hlt : k < n
      · have hl : Hid (a + k < (fillL S.ws a k poison).length) := by show _ < _; rw [fillL_len (by rw [HM.out]; omega), HM.out]; omega
        have hs : Hid ((fillL S.ws a k poison).set (a + k) poison = fillL S.ws a (k + 1) poison) := (fillL_succ (by rw [HM.out]; omega)).symm
        have hc1 : ((a : Int) + (k : Int)) = ((a + k : Nat) : Int) := by omega
        have HC := Mm.hid hc1
        clear hc1
        go_wp2_with fail
        rw [HC.out]
        refine (spoil_any base g F _ _ (a + k) HK.out.1 hl.out).mono ?_
        rintro e w1 ⟨rfl, hm1, hf1⟩
        have hm2 : MemB base F w1 g ⟨fillL S.ws a (k + 1) poison, S.tr, S.bad⟩ := by rw [← hs.out]; exact hm1
        have M1 := Mm.hid (And.intro hm2 (HK.out.2.trans hf1 fun _ _ h => h))
        clear hm1 hm2 hf1
        go_wp2
        go_roundw
        case rel => exact ⟨k + 1, by omega, by go_num, M1.out⟩
        case measure => simp [intOf] <;> omega
      · have hkn : k = n := by omega
        subst hkn
        go_wp2
        go_ret
        exact ⟨by rw [E1.out.2]; rfl, by rw [E1.out.1]; exact HK.out.1, HK.out.2⟩
  · have E1 : Hid (S.fill addr n poison = S ∧ S.code addr n = 140) := ⟨if_neg hin, if_neg hin⟩
    have fin : FillEnds base g F (S.fill addr n poison) (S.code addr n) w (.returned (.int .i64 140)) w := ⟨by rw [E1.out.2], by rw [E1.out.1]; exact H.out, Fr.refl _ _⟩
    have FIN := Mm.hid fin
    rw [within_iff, hm] at hin
    have HI := Mm.hid hin
    clear h h1 h2 h3 h4 h5 hin hm fin
    by_cases q1 : addr < 0
    · go_enter Try.func73, Try.ntmps73
      go_wp2
      go_ret
      exact FIN.out
    by_cases q2 : n < 0
    · go_enter Try.func73, Try.ntmps73
      go_wp2
      go_ret
      exact FIN.out
    have q3 : (m : Int) - n < addr := by have := HI.out; omega
    go_enter Try.func73, Try.ntmps73
    go_wp2
    go_ret
    exact FIN.out
set_option maxHeartbeats 1000000 in
theorem over_wipe (base g : Nat) (F : Nat → Prop) (S : Cm) (addr n : Int) (w : World) (h : MemB base F w g S) (hnm : n ≤ 9223372036854775807) :
    Calls Try.prog 73 #[.pointer (some ⟨g, 0, none⟩), .int .i64 addr, .int .i64 n, .func (.func 76) #[.pointer (some ⟨g, 0, none⟩)] #[]] w (FillEnds base g F (S.fill addr n 0) (S.code addr n) w) := by
  have H := Mm.hid h
  obtain ⟨vW, vT, h1, h2, h3, h4, h5⟩ := h.out
  have hwl := h.wl
  obtain ⟨m, hm⟩ : ∃ m, S.ws.length = m := ⟨_, rfl⟩
  rw [hm] at h2 hwl
  obtain ⟨A, c, rfl, hc, _, _⟩ := own_slice h2
  have c0 : w.cell? ⟨g, 0, none⟩ = some (.slice A m c) := h1.cell 0
  by_cases hin : S.within addr n = true
  · obtain ⟨ha, hn0, hle⟩ := (within_iff S addr n).1 hin
    rw [hm] at hle
    have E1 : Hid (S.fill addr n 0 = ⟨fillL S.ws addr.toNat n.toNat 0, S.tr, S.bad⟩ ∧ S.code addr n = 0) := ⟨if_pos hin, if_pos hin⟩
    obtain ⟨a, rfl⟩ := Int.eq_ofNat_of_zero_le ha
    obtain ⟨n, rfl⟩ := Int.eq_ofNat_of_zero_le hn0
    simp only [Int.toNat_natCast] at E1
    have hle' : a + n ≤ m := by omega
    have HM := Mm.hid hm
    clear h h1 h2 h3 h4 h5 hin hm
    go_enter Try.func73, Try.ntmps73
    go_wp2_with fail
    clear c0
    go_loopw [28] (fun i wr => ∃ k : Nat, k ≤ n ∧ i = .int .i64 (k : Nat) ∧ Hid (MemB base F wr g ⟨fillL S.ws a k 0, S.tr, S.bad⟩ ∧ Fr F w wr)) (fun i _ => n - (intOf i).toNat)
    case atStart => exact ⟨0, Nat.zero_le _, rfl, by rw [fillL_zero]; exact H.out, Fr.refl _ _⟩
    case round =>
      obtain ⟨k, hk, rfl, HK⟩ := hrel
      by_cases hlt : k < n
      · have hl : Hid (a + k < (fillL S.ws a k 0).length) := by show _ < _; rw [fillL_len (by rw [HM.out]; omega), HM.out]; omega
        have hs : Hid ((fillL S.ws a k 0).set (a + k) 0 = fillL S.ws a (k + 1) 0) := (fillL_succ (by rw [HM.out]; omega)).symm
        have hc1 : ((a : Int) + (k : Int)) = ((a + k : Nat) : Int) := by omega
        have HC := Mm.hid hc1
        clear hc1
        go_wp2_with fail
        rw [HC.out]
        refine (wipe_any base g F _ _ (a + k) HK.out.1 hl.out).mono ?_
        rintro e w1 ⟨rfl, hm1, hf1⟩
        have hm2 : MemB base F w1 g ⟨fillL S.ws a (k + 1) 0, S.tr, S.bad⟩ := by rw [← hs.out]; exact hm1
        have M1 := Mm.hid (And.intro hm2 (HK.out.2.trans hf1 fun _ _ h => h))
        clear hm1 hm2 hf1
        go_wp2
        go_roundw
        case rel => exact ⟨k + 1, by omega, by go_num, M1.out⟩
        case measure => simp [intOf] <;> omega
      · have hkn : k = n := by omega
        subst hkn
        go_wp2
        go_ret
        exact ⟨by rw [E1.out.2]; rfl, by rw [E1.out.1]; exact HK.out.1, HK.out.2⟩
  · have E1 : Hid (S.fill addr n 0 = S ∧ S.code addr n = 140) := ⟨if_neg hin, if_neg hin⟩
    have fin : FillEnds base g F (S.fill addr n 0) (S.code addr n) w (.returned (.int .i64 140)) w := ⟨by rw [E1.out.2], by rw [E1.out.1]; exact H.out, Fr.refl _ _⟩
    have FIN := Mm.hid fin
    rw [within_iff, hm] at hin
    have HI := Mm.hid hin
    clear h h1 h2 h3 h4 h5 hin hm fin
    by_cases q1 : addr < 0
    · go_enter Try.func73, Try.ntmps73
      go_wp2
      go_ret
      exact FIN.out
    by_cases q2 : n < 0
    · go_enter Try.func73, Try.ntmps73
      go_wp2
      go_ret
      exact FIN.out
    have q3 : (m : Int) - n < addr := by have := HI.out; omega
    go_enter Try.func73, Try.ntmps73
    go_wp2
    go_ret
    exact FIN.out
theorem poison_any (base g : Nat) (F : Nat → Prop) (S : Cm) (addr n : Int) (w : World) (h : MemB base F w g S) (hnm : n ≤ 9223372036854775807) :
    Calls Try.prog 29 #[.pointer (some ⟨g, 0, none⟩), .int .i64 addr, .int .i64 n] w (FillEnds base g F (S.fill addr n poison) (S.code addr n) w) := by
  go_enter Try.func29, Try.ntmps29
  go_wp2_with fail
  refine (over_spoil base g F S addr n _ h hnm).mono ?_
  rintro e w1 ⟨rfl, hm, hf⟩
  have M := Mm.hid (And.intro hm hf)
  clear hm hf
  go_wp2
  go_ret
  exact ⟨rfl, M.out⟩
theorem clear_any (base g : Nat) (F : Nat → Prop) (S : Cm) (addr n : Int) (w : World) (h : MemB base F w g S) (hnm : n ≤ 9223372036854775807) :
    Calls Try.prog 28 #[.pointer (some ⟨g, 0, none⟩), .int .i64 addr, .int .i64 n] w (FillEnds base g F (S.fill addr n 0) (S.code addr n) w) := by
  go_enter Try.func28, Try.ntmps28
  go_wp2_with fail
  refine (over_wipe base g F S addr n _ h hnm).mono ?_
  rintro e w1 ⟨rfl, hm, hf⟩
  have M := Mm.hid (And.intro hm hf)
  clear hm hf
  go_wp2
  go_ret
  exact ⟨rfl, M.out⟩
theorem bad_any (base g : Nat) (F : Nat → Prop) (S : Cm) (w : World) (h : MemB base F w g S) :
    Calls Try.prog 30 #[.pointer (some ⟨g, 0, none⟩)] w fun e w' => e = .returned (.int .i64 (S.bad : Int)) ∧ w = w' := by
  obtain ⟨vW, vT, h1, _⟩ := h.out
  have c2 : w.cell? ⟨g, 2, none⟩ = some (.int .i64 (S.bad : Int)) := h1.cell 2
  clear h h1
  go_enter Try.func30, Try.ntmps30
  go_wp2
  go_ret
  exact ⟨rfl, rfl⟩
theorem len_any (base g : Nat) (F : Nat → Prop) (S : Cm) (n : Nat) (w : World) (h : MemB base F w g S) (hn : S.ws.length = n) :
    Calls Try.prog 41 #[.pointer (some ⟨g, 0, none⟩)] w fun e w' => e = .returned (.int .i64 (n : Int)) ∧ w = w' := by
  obtain ⟨vW, vT, h1, h2, _⟩ := h.out
  rw [hn] at h2
  obtain ⟨A, c, rfl, hc, _, _⟩ := own_slice h2
  have c0 : w.cell? ⟨g, 0, none⟩ = some (.slice A n c) := h1.cell 0
  clear h h1 h2 hn
  go_enter Try.func41, Try.ntmps41
  go_wp2
  go_ret
  exact ⟨rfl, rfl⟩
end Go.Proofs.Ytkbobgblohohcaa

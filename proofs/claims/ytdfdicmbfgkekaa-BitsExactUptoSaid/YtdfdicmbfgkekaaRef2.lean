/- Walks: the document's set: a new one, all its numbers, how many, what another one holds. -/
import Derived.Test.YtdfdicmbfgkekaaRef
namespace Go.Proofs.Ytdfdicmbfgkekaa
open Go.RowKit Go.Mm Go.Bs
def RNewEnds (r : Nat) (w : World) (e : Ending) (w' : World) : Prop := ∃ b : Nat, e = .returned (.pointer (some ⟨b, 0, none⟩)) ∧ Hid (RefB w.heap.size w'.heap.size w' b r none0 ∧ Below w.heap.size w w')
theorem rl_none_snoc (k : Nat) : rl k none0 ++ [false] = rl (k + 1) none0 := by simp [rl, List.range_succ, none0]
set_option maxHeartbeats 1000000 in
set_option maxRecDepth 100000 in
theorem rnew_any (n : Int) (w : World) (hn : n ≤ 9223372036854775807) : Calls Try.prog 29 #[.int .i64 n] w (RNewEnds (roomOf n) w) := by
  obtain ⟨r, hr⟩ : ∃ r, roomOf n = r := ⟨_, rfl⟩
  have hrl : r ≤ 65536 := by unfold roomOf at hr; omega
  have hr1 : r < 65536 → n ≤ (r : Int) := by unfold roomOf at hr; omega
  have hr2 : 0 < r → (r : Int) ≤ n := by unfold roomOf at hr; omega
  rw [hr]
  have HR := Mm.hid (And.intro hr1 hr2)
  have B0 : Hid (Blk (w.alloc (.cells #[.slice none 0 0] 81)) w.heap.size 81 #[.slice none 0 0] ∧ (w.alloc (.cells #[.slice none 0 0] 81)).ownsRow w.heap.size 4 1 (.slice none 0 0) 0 (bL (rl 0 none0)) ∧ Below w.heap.size w (w.alloc (.cells #[.slice none 0 0] 81))) :=
    Mm.hid ⟨Blk.new _ _ _, ⟨by simp [bL, rl], .inl ⟨rfl, rfl⟩⟩, (Below.refl _ _).alloc (Nat.le_refl _) _⟩
  clear hr hr1 hr2
  go_enter Try.func29, Try.ntmps29
  go_wp2_with fail
  go_loopw [4] (fun i wr => ∃ k : Nat, k ≤ r ∧ i = .int .i64 (k : Nat) ∧ Hid (∃ v, Blk wr w.heap.size 81 #[v] ∧ wr.ownsRow w.heap.size 4 1 v k (bL (rl k none0)) ∧ Below w.heap.size w wr)) (fun i _ => r - (intOf i).toNat)
  case atStart => exact ⟨0, by omega, rfl, _, B0.out⟩
  case round =>
    obtain ⟨k, hk, rfl, HK⟩ := hrel
    clear B0
    by_cases hlt : k < r
    · have hkn : (k : Int) < n := by have := HR.out.2 (by omega); omega
      have hk6 : (k : Int) < 65536 := by omega
      obtain ⟨v, h1, h2, h3⟩ := HK.out
      obtain ⟨A, c, rfl, hc, _, _⟩ := own_slice h2
      have c0 : wr.cell? ⟨w.heap.size, 0, none⟩ = some (.slice A k c) := h1.cell 0
      have hsz := h3.size
      have hne := own_ne h2 h1 (by decide)
      have hone : ∀ u ∈ (#[Value.bool false] : Array Value).toList, u.oneCell' = true := by simp; rfl
      have HO := Mm.hid hone
      have H1 := Mm.hid h1
      have H2 := Mm.hid h2
      have H3 := Mm.hid h3
      have NE := Mm.hid hne
      have LB := Mm.hid h1.lt
      clear h1 h2 h3 HK hone hne
      go_wp2_with (at_builtin; go_must (refine wp_ape1 w.heap.size rfl (.tmp 20) (.tmp 21) 27 4 (.bool false) 1 1 #[.bool false] rfl Try.underlying27 info4 rfl (by decide) (by decide) (.slice A k c) k _ rfl rfl rfl HO.out (by exact H2.out) H3.out hsz (by omega) ?_; intro v1 w1 k1 k2 k3 k4; have hb1 : Blk w1 w.heap.size 81 #[.slice A k c] := H1.out.keep (k3.block _ LB.out (fun e => NE.out e.symm)); have e1 : w1.cell? ⟨w.heap.size, 0, none⟩ = some (.slice A k c) := hb1.cell 0; have e2 : w1.frozen? ⟨w.heap.size, 0, none⟩ = false := hb1.free 0; have FN : Hid (Blk w1 w.heap.size 81 #[.slice A k c] ∧ w1.ownsRow w.heap.size 4 1 v1 (k + 1) (bL (rl k none0) ++ [.bool false]) ∧ Below w.heap.size w w1) := Mm.hid ⟨hb1, k1, k2⟩; clear k1 k2 k3 k4 hb1; obtain ⟨A1, c1, hv, hc1, _, _⟩ := own_slice FN.out.2.1; subst hv))
      all_goals
        have hb2 := FN.out.1.set 0 (.slice A1 (k + 1) c1)
        have F2 : Hid (∃ v, Blk (w1.setCell ⟨w.heap.size, 0, none⟩ (.slice A1 (k + 1) c1)) w.heap.size 81 #[v] ∧ (w1.setCell ⟨w.heap.size, 0, none⟩ (.slice A1 (k + 1) c1)).ownsRow w.heap.size 4 1 v (k + 1) (bL (rl (k + 1) none0)) ∧ Below w.heap.size w (w1.setCell ⟨w.heap.size, 0, none⟩ (.slice A1 (k + 1) c1))) := by
          refine Mm.hid ⟨_, hb2, ?_, FN.out.2.2.setCell (Nat.le_refl _) _⟩
          have h4 := (Fr.setCell w1 ⟨w.heap.size, 0, none⟩ (.slice A1 (k + 1) c1)).own FN.out.2.1 (fun b hb (e : b = w.heap.size) => own_ne FN.out.2.1 FN.out.1 (by decide) (by rw [hb, e]))
          rw [bL_snoc, rl_none_snoc] at h4
          exact h4
        clear hb2
        go_roundw
        case rel => exact ⟨k + 1, by omega, by go_num, F2.out⟩
        case measure => simp [intOf]; omega
    · have hkr : k = r := by omega
      subst hkr
      have FIN : Hid (RefB w.heap.size wr.heap.size wr w.heap.size k none0 ∧ Below w.heap.size w wr) := by
        obtain ⟨v, h1, h2, h3⟩ := HK.out
        exact Mm.hid ⟨⟨⟨v, h1, h2, fun j hj => (own_lt h2 hj).2⟩, ⟨Nat.le_refl _, h1.lt⟩, Nat.le_refl _, hrl, fun _ _ => rfl⟩, h3⟩
      by_cases q1 : (k : Int) < n
      · have q2 : ¬ (k : Int) < 65536 := by
          intro h
          have := HR.out.1 (by omega)
          omega
        go_wp2
        go_ret
        exact ⟨_, rfl, FIN.out⟩
      · go_wp2
        go_ret
        exact ⟨_, rfl, FIN.out⟩
/-- all its numbers -/
theorem nL_snoc (l : List Nat) (k : Nat) : iL (toI l) ++ [.int .i64 (k : Int)] = iL (toI (l ++ [k])) := by rw [iL_snoc, toI_snoc]
def AllEnds (l : List Nat) (w : World) (e : Ending) (w' : World) : Prop := ∃ A n c, e = .returned (.slice A n c) ∧ n ≤ c ∧ n ≤ 65536 ∧ Hid (l.length = n ∧ w'.ownsRow w.heap.size 3 1 (.slice A n c) n (iL (toI l)) ∧ Below w.heap.size w w')
set_option maxRecDepth 100000 in
set_option maxHeartbeats 1000000 in
theorem all_any (lo hi b r : Nat) (S : Nat → Bool) (w : World) (h : RefB lo hi w b r S) : Calls Try.prog 61 #[.pointer (some ⟨b, 0, none⟩)] w (AllEnds (ml S r) w) := by
  have hm := h.most
  have H := Mm.hid h
  have nil : Hid (w.ownsRow w.heap.size 3 1 (.slice none 0 0) 0 (iL (toI (ml S 0)))) := Mm.hid ⟨by simp [iL, toI, ml], .inl ⟨rfl, rfl⟩⟩
  obtain ⟨v, h1, _, _⟩ := h.out
  clear h h1
  go_enter Try.func61, Try.ntmps61
  go_wp2_with fail
  go_loopw [3, 4] (fun v i wr => ∃ k n : Nat, k ≤ r ∧ n ≤ k ∧ i = .int .i64 (k : Nat) ∧ Hid ((ml S k).length = n ∧ wr.ownsRow w.heap.size 3 1 v n (iL (toI (ml S k))) ∧ Below w.heap.size w wr)) (fun _ i _ => r - (intOf i).toNat)
  case atStart => exact ⟨0, 0, by omega, by omega, rfl, by simp [ml], nil.out, Below.refl _ _⟩
  case round =>
    obtain ⟨k, n, hk, hn, rfl, HK⟩ := hrel
    have hsz := HK.out.2.2.size
    have HB := Mm.hid (H.out.below HK.out.2.2)
    by_cases hlt : k < r
    · obtain ⟨g, cap, hc, hg, hb, ho, hcell, hfr⟩ := HB.out.row (by omega)
      have c0 : wr.cell? ⟨b, 0, none⟩ = some (.slice (some ⟨g, 0, none⟩) r cap) := hb.cell 0
      have ck := hcell k hlt
      have HS := Mm.hid (ml_succ S k)
      clear hb ho hcell hfr hg
      cases hs : S k
      · rw [hs] at ck
        have FN : Hid ((ml S (k + 1)).length = n ∧ wr.ownsRow w.heap.size 3 1 u3 n (iL (toI (ml S (k + 1)))) ∧ Below w.heap.size w wr) := by
          rw [HS.out, hs]; simp only [Bool.false_eq_true, if_false, List.append_nil]; exact HK.out
        clear hs
        go_wp2
        go_roundw
        case rel => exact ⟨k + 1, n, by omega, by omega, by go_num, FN.out⟩
        case measure => simp [intOf]; omega
      · rw [hs] at ck
        have hone : ∀ u ∈ (#[Value.int .i64 (k : Int)] : Array Value).toList, u.oneCell' = true := by simp; rfl
        have HO := Mm.hid hone
        have HST := Mm.hid hs
        clear hs hone
        go_wp2_with (at_builtin; go_must (refine wp_ape1 w.heap.size rfl (.tmp 21) (.tmp 23) 22 3 (.int .i64 0) 1 8 #[.int .i64 (k : Int)] rfl Try.underlying22 info3 rfl (by decide) (by decide) u3 n _ rfl rfl rfl HO.out (by exact HK.out.2.1) HK.out.2.2 hsz (by omega) ?_))
        intro v1 w1 k1 k2 k3 k4
        have FN : Hid ((ml S (k + 1)).length = n + 1 ∧ w1.ownsRow w.heap.size 3 1 v1 (n + 1) (iL (toI (ml S (k + 1)))) ∧ Below w.heap.size w w1) := by
          rw [HS.out, HST.out]
          refine ⟨by simp [HK.out.1], ?_, k2⟩
          rw [if_pos rfl, ← nL_snoc]; exact k1
        clear k1 k2 k3 k4
        go_wp2
        go_roundw
        case rel => exact ⟨k + 1, n + 1, by omega, by omega, by go_num, FN.out⟩
        case measure => simp [intOf]; omega
    · have hkr : k = r := by omega
      subst hkr
      obtain ⟨A, c, hv, hc, _, _⟩ := own_slice HK.out.2.1
      subst hv
      obtain ⟨v, h1, h2, _⟩ := HB.out.out
      obtain ⟨A2, c2, hv, hc2, _, _⟩ := own_slice h2
      subst hv
      have c0 : wr.cell? ⟨b, 0, none⟩ = some (.slice A2 k c2) := h1.cell 0
      clear h1 h2
      go_wp2
      go_ret
      exact ⟨A, n, c, rfl, hc, by omega, HK.out⟩
theorem ml_cnt (S : Nat → Bool) : ∀ r, (ml S r).length = cnt S r
  | 0 => rfl
  | r + 1 => by rw [ml_succ, List.length_append, ml_cnt S r]; show _ = cnt S r + (if S r then 1 else 0); cases S r <;> rfl
theorem rcount_any (lo hi b r : Nat) (S : Nat → Bool) (w : World) (h : RefB lo hi w b r S) : Calls Try.prog 53 #[.pointer (some ⟨b, 0, none⟩)] w fun e w' => e = .returned (.int .i64 (cnt S r : Nat)) ∧ Below w.heap.size w w' := by
  have H := Mm.hid h
  have HC := Mm.hid (ml_cnt S r)
  clear h
  go_enter Try.func53, Try.ntmps53
  go_wp2_with fail
  refine (all_any lo hi b r S _ H.out).mono ?_
  rintro e w1 ⟨A, n, c, rfl, hc, hn, H1⟩
  have HN : Hid (cnt S r = n) := Mm.hid (HC.out.symm.trans H1.out.1)
  go_wp2
  go_ret
  exact ⟨ret_i64 (by rw [HN.out]), H1.out.2.2⟩
/-- another set of the document's: none, or one that holds T -/
def ROther (w : World) (q : Option Addr) (T : Nat → Bool) (l : List Nat) : Prop := (q = none ∧ T = none0 ∧ l = []) ∨ ∃ lo hi b r, q = some ⟨b, 0, none⟩ ∧ RefB lo hi w b r T ∧ l = ml T r
def HeldEnds (l : List Nat) (w : World) (e : Ending) (w' : World) : Prop := ∃ A n c, e = .returned (.slice A n c) ∧ n ≤ c ∧ n ≤ 65536 ∧ Hid (l.length = n ∧ Rd w' A n 1 (iL (toI l)) ∧ Below w.heap.size w w' ∧ ∀ ad, A = some ad → w.heap.size ≤ ad.block)
theorem held_any (q : Option Addr) (T : Nat → Bool) (l : List Nat) (w : World) (h : ROther w q T l) : Calls Try.prog 63 #[.pointer q] w (HeldEnds l w) := by
  rcases h with ⟨rfl, rfl, rfl⟩ | ⟨lo, hi, b, r, rfl, h, rfl⟩
  · have FIN : Hid (([] : List Nat).length = 0 ∧ Rd w none 0 1 (iL (toI [])) ∧ Below w.heap.size w w ∧ ∀ ad, (none : Option Addr) = some ad → w.heap.size ≤ ad.block) := Mm.hid ⟨rfl, Rd.nil _ _ _, Below.refl _ _, fun _ h => by cases h⟩
    go_enter Try.func63, Try.ntmps63
    go_wp2
    go_ret
    exact ⟨none, 0, 0, rfl, Nat.le_refl _, by omega, FIN.out⟩
  · have H := Mm.hid h
    clear h
    go_enter Try.func63, Try.ntmps63
    go_wp2_with fail
    refine (all_any lo hi b r T _ H.out).mono ?_
    rintro e w1 ⟨A, n, c, rfl, hc, hn, H1⟩
    have FIN : Hid ((ml T r).length = n ∧ Rd w1 A n 1 (iL (toI (ml T r))) ∧ Below w.heap.size w w1 ∧ ∀ ad, A = some ad → w.heap.size ≤ ad.block) := Mm.hid ⟨H1.out.1, Rd.of_own H1.out.2.1, H1.out.2.2, fun ad hA => (own_lt H1.out.2.1 (b := ad.block) (by rw [hA]; rfl)).1⟩
    clear H1
    go_wp2
    go_ret
    exact ⟨A, n, c, rfl, hc, hn, FIN.out⟩
end Go.Proofs.Ytdfdicmbfgkekaa

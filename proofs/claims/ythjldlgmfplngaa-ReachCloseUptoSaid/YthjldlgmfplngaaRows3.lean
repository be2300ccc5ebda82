/- Walk: a table copied into memory of its own, with four marked places behind each row. -/
import Derived.Test.YthjldlgmfplngaaRclose
namespace Go.Proofs.Ythjldlgmfplngaa
open Go.RowKit Go.Mm Go.Maps Go.Reach Go.WideMaps
theorem info22 : (Try.prog.info? 22).map (fun i => (i.zero, i.size, i.bytes)) = some (some (.slice none 0 0), 1, 24) := by kernel_rfl
/-- four marked places -/
def sev : List Int := [-7, -7, -7, -7]
structure RowsB (base : Nat) (vs : List Value) (tb : List (List Int)) (w : World) : Prop where
  len : vs.length = tb.length
  row : ∀ (i : Nat) (v : Value) (xs : List Int), vs[i]? = some v → tb[i]? = some xs → ∃ g cap, v = .slice (some ⟨g, 0, none⟩) xs.length cap ∧ xs.length + 4 ≤ cap ∧ w.ownsRow base 3 1 (.slice (some ⟨g, 0, none⟩) (xs.length + 4) cap) (xs.length + 4) (iL (xs ++ sev))
theorem RowsB.fr {base : Nat} {vs : List Value} {tb : List (List Int)} {w w' : World} {T : Nat → Prop} (h : RowsB base vs tb w) (hf : Fr T w w') (hT : ∀ k, T k → w.heap.size ≤ k ∨ ∃ (e sz n b : Nat) (v : Value) (ys : List Value), e ≠ 3 ∧ w.ownsRow b e sz v n ys ∧ v.ownBlock = some k) : RowsB base vs tb w' :=
  ⟨h.len, fun i v xs hv hx => by
    obtain ⟨g, cap, e, hc, r⟩ := h.row i v xs hv hx
    refine ⟨g, cap, e, hc, hf.own r fun b hb hTb => ?_⟩
    rcases hT b hTb with h1 | ⟨e', sz, n, b', v', ys, hne, o, ho⟩
    · have := (own_lt r hb).2; omega
    · exact own_own_ne r o (Ne.symm hne) hb ho⟩
theorem RowsB.tab {base n : Nat} {vs : List Value} {tb : List (List Int)} {w : World} {A : Option Addr} {c : Nat} (h : RowsB base vs tb w) (ho : w.ownsRow base 22 1 (.slice A n c) n vs) : TabR w A n vs tb := by
  refine ⟨Rd.of_own ho, ?_, fun i v xs hv hx => ?_⟩
  · rw [← h.len, own_len ho]
  · obtain ⟨g, cap, e, hc, r⟩ := h.row i v xs hv hx
    refine ⟨_, _, e, by omega, ?_⟩
    have := (Rd.of_own r).take (m := xs.length) (by omega)
    rw [iL_take, List.take_left' rfl] at this
    exact this
structure RowsR (base : Nat) (A : Option Addr) (k c : Nat) (vs : List Value) (tb : List (List Int)) (w0 w : World) : Prop where
  own : w.ownsRow base 22 1 (.slice A k c) k vs
  rows : RowsB base vs tb w
  fr : Below base w0 w
theorem RowsB.snoc {base : Nat} {vs : List Value} {tb : List (List Int)} {w : World} (h : RowsB base vs tb w) {xs : List Int} {g cap : Nat} (hc : xs.length + 4 ≤ cap) (r : w.ownsRow base 3 1 (.slice (some ⟨g, 0, none⟩) (xs.length + 4) cap) (xs.length + 4) (iL (xs ++ sev))) : RowsB base (vs ++ [.slice (some ⟨g, 0, none⟩) xs.length cap]) (tb ++ [xs]) w := by
  refine ⟨by simp [h.len], fun i v ys hv hy => ?_⟩
  by_cases hi : i < vs.length
  · rw [List.getElem?_append_left hi] at hv
    rw [List.getElem?_append_left (by rw [← h.len]; exact hi)] at hy
    exact h.row i v ys hv hy
  · have hie : i = vs.length := by
      have := (List.getElem?_eq_some_iff.1 hv).1
      simp at this; omega
    subst hie
    rw [List.getElem?_append_right (Nat.le_refl _), Nat.sub_self] at hv
    rw [h.len, List.getElem?_append_right (Nat.le_refl _), Nat.sub_self] at hy
    simp at hv hy
    subst hv hy
    exact ⟨g, cap, rfl, hc, r⟩
set_option maxRecDepth 100000 in
set_option maxHeartbeats 2000000 in
theorem rows_any (A : Option Addr) (n c : Nat) (vs0 : List Value) (tb : List (List Int)) (w : World) (ht : TabR w A n vs0 tb) (hn : n ≤ 1099511627776) (hlt : ∀ xs ∈ tb, xs.length ≤ 1099511627776) :
    Calls Try.prog 13 #[.slice A n c] w fun e w' => ∃ A1 c1 vs, e = .returned (.slice A1 n c1) ∧ n ≤ c1 ∧ Hid (RowsR w.heap.size A1 n c1 vs tb w w') := by
  have T := Mm.hid ht
  have HLT := Mm.hid hlt
  clear ht hlt
  have ST : Hid (RowsR w.heap.size none 0 0 [] (tb.take 0) w w) := ⟨⟨rfl, .inl ⟨rfl, rfl⟩⟩, ⟨rfl, fun i v xs h => by simp at h⟩, Below.refl _ _⟩
  go_enter Try.func13, Try.ntmps13
  go_wp2_with fail
  go_loopw [3, 4, 5] (fun tv iv _ wr => ∃ k A1 c1 vs, k ≤ n ∧ iv = .int .i64 (k : Nat) ∧ tv = .slice A1 k c1 ∧ k ≤ c1 ∧ Hid (RowsR w.heap.size A1 k c1 vs (tb.take k) w wr)) (fun _ iv _ _ => n - (intOf iv).toNat)
  case atStart => exact ⟨0, none, 0, [], Nat.zero_le _, rfl, rfl, Nat.le_refl _, ST.out⟩
  case round =>
    obtain ⟨k, A1, c1, vs, hk, rfl, rfl, hc1, HQ⟩ := hrel
    clear ST
    by_cases hlt : k < n
    · obtain ⟨xs, hxs⟩ : ∃ xs, tb[k]? = some xs := ⟨_, List.getElem?_eq_getElem (by rw [T.out.len]; exact hlt)⟩
      have FQ := Mm.hid (Fr.of_below HQ.out.fr)
      obtain ⟨ad, Ai, ci, rfl, t1, hci, RI⟩ := (T.out.fr FQ.out).at hxs
      have TK : Hid (tb.take (k + 1) = tb.take k ++ [xs]) := take_snoc' hxs
      have hq9 := HLT.out xs (List.mem_of_getElem? hxs)
      obtain ⟨q, hq⟩ : ∃ q, xs.length = q := ⟨_, rfl⟩
      have HQL := Mm.hid hq
      rw [hq] at t1 hci RI hq9
      have RIh := Mm.hid RI
      have SZ0 : Hid (w.heap.size ≤ wr.heap.size) := HQ.out.fr.size
      have HN0 : Hid (wr.ownsRow w.heap.size 3 1 (.slice none 0 0) 0 []) := ⟨rfl, .inl ⟨rfl, rfl⟩⟩
      have HL0 : Hid ((0 + q) * 8 ≤ 140737488355328) := by show _ ≤ _; omega
      clear hxs hq RI
      go_upto_region 7 with (at_builtin; go_must (refine wp_ape w.heap.size rfl (.tmp 12) (.tmp 16) 22 3 (.int .i64 0) 1 8 rfl Try.underlying22 info3 rfl (by decide) (by decide) (.slice none 0 0) 0 [] Ai q ci (iL xs) rfl rfl RIh.out (iL_one xs) HN0.out HQ.out.fr SZ0.out HL0.out ?_; intro v1 wa k1 k2 k3 k4; rw [Nat.zero_add, List.nil_append] at k1; obtain ⟨A2, c2, hv, hc2, _, _⟩ := own_slice k1; subst hv; have K1 := Mm.hid k1; have K2 := Mm.hid k2; have K3 := Mm.hid k3; have K4 := Mm.hid (k4_of k4); clear k1 k2 k3 k4))
      have FA : Hid (Fr (fun _ => False) wr wa) := (Fr.grown K3.out).mono fun j e => nomatch e
      obtain ⟨wl, hwl⟩ : ∃ wl, wa.alloc (.cells #[.int .i64 (-7), .int .i64 (-7), .int .i64 (-7), .int .i64 (-7)] 3) = wl := ⟨_, rfl⟩
      have FL : Hid (Fr (fun _ => False) wa wl) := by show Fr _ _ _; rw [← hwl]; exact Fr.alloc (fun _ => False) wa _
      have RL : Hid (Rd wl (some ⟨wa.heap.size, 0, none⟩) 4 1 (iL sev)) := by show Rd _ _ _ _ _; rw [← hwl]; exact Rd.lit wa #[.int .i64 (-7), .int .i64 (-7), .int .i64 (-7), .int .i64 (-7)] 3 4 rfl
      have O1 := Mm.hid (FL.out.own K1.out fun _ _ h => h)
      have B1 : Hid (Below w.heap.size w wl) := K2.out.trans (FL.out.below (fun _ h => h.elim) K2.out.size)
      have HL2 : Hid ((q + 4) * 8 ≤ 140737488355328) := by show _ ≤ _; omega
      have TQ := Mm.hid (FL.out.own (FA.out.own HQ.out.own fun _ _ h => h) fun _ _ h => h)
      have RQ := Mm.hid HQ.out.rows
      have FC := Mm.hid (FA.out.trans FL.out fun _ _ h => h)
      have KF : Hid (∀ j, (Value.slice A2 q c2).ownBlock = some j → wr.heap.size ≤ j) := fun j hj => (K4.out j hj).resolve_left fun e => nomatch e
      clear K1 K2 K3 K4 FA RIh HN0 HQ t1 FQ
      go_upto_region 8 with (at_builtin; go_must (refine wp_ape w.heap.size rfl (.tmp 18) (.tmp 19) 22 3 (.int .i64 0) 1 8 rfl Try.underlying22 info3 rfl (by decide) (by decide) (.slice A2 q c2) q (iL xs) (some ⟨wa.heap.size, 0, none⟩) 4 4 (iL sev) rfl rfl RL.out (iL_one sev) O1.out B1.out B1.out.size HL2.out ?_; intro v1 wb k1 k2 k3 k4; rw [iL_append] at k1; have K1 := Mm.hid k1; have K2 := Mm.hid k2; have K3 := Mm.hid k3; clear k1 k2 k3 k4))
      obtain ⟨g, cap, hv, hcap, hg1, hg2, _, _⟩ := own_blk K1.out (by omega)
      subst hv
      have GB := Mm.hid (Fr.grown K3.out)
      have TB := Mm.hid (GB.out.own TQ.out fun b hb e => own_own_ne TQ.out O1.out (by decide) hb e)
      have T2 := Mm.hid (T.out.fr (Fr.of_below K2.out))
      have RB : Hid (RowsB w.heap.size (vs ++ [.slice (some ⟨g, 0, none⟩) q cap]) (tb.take (k + 1)) wb) := by
        show RowsB _ _ _ _
        rw [TK.out]
        have h1 := RQ.out.fr ((FC.out.mono (T := fun j => (Value.slice A2 q c2).ownBlock = some j) fun _ h => h.elim).trans GB.out fun _ _ e => e) fun j hj => .inl (KF.out j hj)
        have h2 := h1.snoc (xs := xs) (g := g) (cap := cap) (by rw [HQL.out]; exact hcap) (by rw [HQL.out]; exact K1.out)
        rw [HQL.out] at h2
        exact h2
      have T3 := Mm.hid T2.out
      obtain ⟨ad', Ai', ci', e', t2, hci', _⟩ := T2.out.at (i := k) (xs := xs) (by
        have h := congrArg (fun l => l[k]?) TK.out
        have hl : (tb.take k).length = k := by rw [List.length_take, T.out.len]; omega
        rw [List.getElem?_take_of_lt (by omega), List.getElem?_append_right (by omega), hl, Nat.sub_self] at h
        exact h)
      injection e' with e'
      subst e'
      rw [HQL.out] at t2 hci'
      have HS1 : Hid (∀ u ∈ (#[.slice (some ⟨g, 0, none⟩) q cap] : Array Value).toList, u.oneCell' = true) := by intro u hu; simp at hu; subst hu; rfl
      have HL3 : Hid ((k + 1) * 24 ≤ 140737488355328) := by show _ ≤ _; omega
      have K2' := Mm.hid K2.out
      clear T3 RQ FC KF O1 B1 TQ RL FL K1 K3 GB
      go_wp2_with (at_builtin; go_must (refine wp_ape1 w.heap.size rfl (.tmp 21) (.tmp 29) 23 22 (.slice none 0 0) 1 24 #[.slice (some ⟨g, 0, none⟩) q cap] rfl Try.underlying23 info22 rfl (by decide) (by decide) (.slice A1 k c1) k _ rfl rfl rfl HS1.out TB.out K2'.out K2'.out.size HL3.out ?_; intro v1 wc k1 k2 k3 k4; obtain ⟨A4, c4, hv, hc4, _, _⟩ := own_slice k1; subst hv; have K1 := Mm.hid k1; have K2c := Mm.hid k2; have K3 := Mm.hid k3; clear k1 k2 k3 k4))
      have NX : Hid (RowsR w.heap.size A4 (k + 1) c4 (vs ++ [.slice (some ⟨g, 0, none⟩) q cap]) (tb.take (k + 1)) w wc) :=
        ⟨K1.out, RB.out.fr (Fr.grown K3.out) fun j hj => .inr ⟨22, 1, _, _, _, _, by decide, TB.out, hj⟩, K2c.out⟩
      go_roundw
      case rel => exact ⟨k + 1, A4, c4, _, by omega, by go_num, rfl, hc4, NX⟩
      case measure => simp [intOf] <;> omega
    · have hkn : k = n := by omega
      subst hkn
      have hty : tb.take k = tb := List.take_of_length_le (by rw [T.out.len]; exact Nat.le_refl _)
      rw [hty] at HQ
      go_wp2_with fail
      go_ret
      exact ⟨A1, c1, vs, rfl, hc1, HQ⟩
end Go.Proofs.Ythjldlgmfplngaa

/- Walk: what ReachClose asks of each number: it is noted, and its row is told. -/
import Derived.Test.YthjldlgmfplngaaUnt
namespace Go.Proofs.Ythjldlgmfplngaa
open Go.RowKit Go.Mm Go.Maps Go.Reach Go.WideMaps
theorem TabR.keep {w w' : World} {A : Option Addr} {n : Nat} {vs : List Value} {tb : List (List Int)} (h : TabR w A n vs tb) (hs : w.heap.size ≤ w'.heap.size) (hk : ∀ k, k < w.heap.size → w'.heap[k]? = w.heap[k]?) : TabR w' A n vs tb :=
  ⟨h.rd.keep hs fun _ _ hl => hk _ hl, h.len, fun i v xs hv hx => by
    obtain ⟨A', c', e, hc, r⟩ := h.row i v xs hv hx
    exact ⟨A', c', e, hc, r.keep hs fun _ _ hl => hk _ hl⟩⟩
/-- those that were asked stand in a box; nothing else is touched -/
def NI (wA : World) (ab base : Nat) (v0 : Value) (d0 : List Int) (d : List Int) (G : Nat → Prop) (w : World) : Prop :=
  ∃ v, G = (fun k => k < wA.heap.size ∨ v.ownBlock = some k) ∧ wA.heap.size ≤ w.heap.size ∧ (∀ k, k < wA.heap.size → k ≠ ab → v0.ownBlock ≠ some k → w.heap[k]? = wA.heap[k]?) ∧ Blk w ab 22 #[v] ∧ w.ownsRow base 3 1 v (d0 ++ d).length (iL (d0 ++ d)) ∧ (∀ k, v.ownBlock = some k → v0.ownBlock = some k ∨ wA.heap.size ≤ k)
theorem ni_inv (wA : World) (ab base : Nat) (v0 : Value) (d0 : List Int) (hab : ab < wA.heap.size) : Invi (NI wA ab base v0 d0) := by
  refine ⟨fun d G w w' h hs hk => ?_, fun d G w k h hG => ?_⟩
  · obtain ⟨v, e, h1, h2, h3, h4, h5⟩ := h
    subst e
    exact ⟨v, rfl, Nat.le_trans h1 hs, fun k hl ha hv => (hk k (.inl hl)).trans (h2 k hl ha hv), h3.keep (hk _ (.inl hab)), own_keep h4 fun b hb => hk b (.inr hb), h5⟩
  · obtain ⟨v, e, h1, h2, h3, h4, h5⟩ := h
    subst e
    rcases hG with h | h
    · omega
    · exact (own_lt h4 h).2
set_option maxRecDepth 100000 in
set_option maxHeartbeats 2000000 in
theorem nx_next (wt wA : World) (ab tx base : Nat) (A : Option Addr) (N c : Nat) (vs : List Value) (tb : List (List Int)) (v0 : Value) (d0 U : List Int) (hT : TabR wt A N vs tb) (hbx : Blk wt tx 23 #[.slice A N c]) (hab : wt.heap.size ≤ ab) (habA : ab < wA.heap.size) (hsz : wt.heap.size ≤ wA.heap.size) (hB : ∀ k, k < wt.heap.size → wA.heap[k]? = wt.heap[k]?) (hv0 : ∀ k, v0.ownBlock = some k → wt.heap.size ≤ k) (hbase : base ≤ wA.heap.size) (_hN : N ≤ 1099511627776) (hl : (d0.length + U.length) * 8 ≤ 140737488355328) (hO : ∀ x ∈ U, Okn x) :
    NextAti 14 #[.pointer (some ⟨ab, 0, none⟩), .pointer (some ⟨tx, 0, none⟩)] (tabF tb) (NI wA ab base v0 d0) U := by
  intro d G w x hI hx hnd hdU
  obtain ⟨v, rfl, h1, h2, h3, h4, h5⟩ := hI
  have hk : ∀ k, k < wt.heap.size → w.heap[k]? = wt.heap[k]? := fun k hl => (h2 k (Nat.lt_of_lt_of_le hl hsz) (by omega) fun e => by have := hv0 k e; omega).trans (hB k hl)
  have HT := Mm.hid hT
  have HBX := Mm.hid hbx
  have HK := Mm.hid hk
  have HSZ := Mm.hid hsz
  have HV0 := Mm.hid hv0
  have hlen : d.length + 1 ≤ U.length := by
    have := nodup_le hnd (U := U) fun y hy => by
      rcases List.mem_append.1 hy with h | h
      · exact hdU y h
      · rw [List.mem_singleton.1 h]; exact hx
    rwa [List.length_append, List.length_singleton] at this
  obtain ⟨m, hm⟩ : ∃ m, (d0 ++ d).length = m := ⟨_, rfl⟩
  have HL1 : Hid ((m + 1) * 8 ≤ 140737488355328) := by show _ ≤ _; rw [← hm, List.length_append]; omega
  have hO' := hO x hx
  rw [hm] at h4
  obtain ⟨A1, c1, rfl, hc1, _, _⟩ := own_slice h4
  have e0 : w.cell? ⟨ab, 0, none⟩ = some (.slice A1 m c1) := h3.cell 0
  have H1 := Mm.hid h1
  have H2 := Mm.hid h2
  have H3 := Mm.hid h3
  have H4 := Mm.hid h4
  have H5 := Mm.hid h5
  have HM := Mm.hid hm
  have HS1 : Hid (∀ u ∈ (#[.int .i64 x] : Array Value).toList, u.oneCell' = true) := by intro u hu; simp at hu; subst hu; rfl
  have SZ : Hid (base ≤ w.heap.size) := Nat.le_trans hbase h1
  have HTX : Hid (tx < ab) := by show _ < _; have := hbx.lt; omega
  have HAB := Mm.hid habA
  have HWB := Mm.hid hab
  clear hT hbx hab hsz hB hv0 hbase hl hO hnd hdU hlen h1 h2 h3 h4 h5 hk hm habA hx
  go_enter Try.func14, Try.ntmps14
  go_upto_region 2 with (at_builtin; go_must (refine wp_ape1 base rfl (.tmp 5) (.tmp 7) 22 3 (.int .i64 0) 1 8 #[.int .i64 x] rfl Try.underlying22 info3 rfl (by decide) (by decide) (.slice A1 m c1) m _ rfl rfl rfl HS1.out H4.out (Below.refl _ _) SZ.out HL1.out ?_; intro v1 wb k1 k2 k3 k4; obtain ⟨A2, c2, hv, hc2, _, _⟩ := own_slice k1; subst hv; have K1 := Mm.hid k1; have K3 := Mm.hid k3; have K4 := Mm.hid (k4_of k4); have LB := Mm.hid ((Fr.grown k3).blk H3.out (fun e => own_ne H4.out H3.out (by decide) e)); have e2 : wb.cell? ⟨ab, 0, none⟩ = some (.slice A1 m c1) := LB.out.cell 0; have e3 : wb.frozen? ⟨ab, 0, none⟩ = false := LB.out.free 0; clear k1 k2 k3 k4))
  obtain ⟨w7, hw7⟩ : ∃ w7, wb.setCell ⟨ab, 0, none⟩ (.slice A2 (m + 1) c2) = w7 := ⟨_, rfl⟩
  have F7 : Hid (Fr (fun k => (Value.slice A1 m c1).ownBlock = some k ∨ k = ab) w w7) := by
    show Fr _ _ _
    rw [← hw7]
    exact ((Fr.grown K3.out).mono (T := fun k => (Value.slice A1 m c1).ownBlock = some k ∨ k = ab) fun _ e => .inl e).trans (Fr.setCell wb ⟨ab, 0, none⟩ _) fun _ _ e => .inr e
  have B7 : Hid (Blk w7 ab 22 #[.slice A2 (m + 1) c2]) := by
    show Blk _ _ _ _
    rw [← hw7]
    exact LB.out.set 0 _
  have O7 : Hid (w7.ownsRow base 3 1 (.slice A2 (m + 1) c2) (m + 1) (iL (d0 ++ (d ++ [x])))) := by
    show World.ownsRow _ _ _ _ _ _ _
    rw [← hw7, ← List.append_assoc, ← iL_snoc]
    exact (Fr.setCell wb ⟨ab, 0, none⟩ _).own K1.out fun b hb (e : b = ab) => own_ne K1.out LB.out (by decide) (e ▸ hb)
  rw [hw7]
  have K7 : Hid (∀ k, k < wt.heap.size → w7.heap[k]? = wt.heap[k]?) := fun k hl => by
    have hl2 : k < w.heap.size := by have := HSZ.out; have := H1.out; omega
    refine (F7.out.block k hl2 fun hT => ?_).trans (HK.out k hl)
    rcases hT with e | e
    · rcases H5.out k e with h | h
      · have := HV0.out k h; omega
      · have := HSZ.out; omega
    · have := HWB.out; omega
  have S7 : Hid (wt.heap.size ≤ w7.heap.size) := by show _ ≤ _; have := F7.out.size; have := H1.out; have := HSZ.out; omega
  have T7 := Mm.hid (HT.out.keep S7.out K7.out)
  have X7 := Mm.hid (HBX.out.keep (K7.out tx HBX.out.lt))
  have x0 : w7.cell? ⟨tx, 0, none⟩ = some (.slice A N c) := X7.out.cell 0
  have NIx : Hid (NI wA ab base v0 d0 (d ++ [x]) (fun k => k < wA.heap.size ∨ (Value.slice A2 (m + 1) c2).ownBlock = some k) w7) := by
    have hlen : (d0 ++ (d ++ [x])).length = m + 1 := by rw [← List.append_assoc, List.length_append, HM.out]; rfl
    refine ⟨_, rfl, Nat.le_trans H1.out F7.out.size, fun k hl ha hv => ?_, B7.out, by rw [hlen]; exact O7.out, fun k hk => ?_⟩
    · refine (F7.out.block k (Nat.lt_of_lt_of_le hl H1.out) fun hT => ?_).trans (H2.out k hl ha hv)
      rcases hT with e | e
      · rcases H5.out k e with h | h
        · exact hv h
        · omega
      · exact ha e
    · rcases K4.out k hk with h | h
      · exact H5.out k h
      · exact .inr (Nat.le_trans H1.out h)
  have GS : Hid (∀ k, (k < wA.heap.size ∨ (Value.slice A2 (m + 1) c2).ownBlock = some k) → (k < wA.heap.size ∨ (Value.slice A1 m c1).ownBlock = some k) ∨ w.heap.size ≤ k) := fun k hk => by
    rcases hk with h | h
    · exact .inl (.inl h)
    · rcases K4.out k h with h | h
      · exact .inl (.inr h)
      · exact .inr h
  have FG : Hid (Fr (fun k => k < wA.heap.size ∨ (Value.slice A1 m c1).ownBlock = some k) w w7) := F7.out.mono fun k e => by
    rcases e with e | e
    · exact .inr e
    · exact .inl (by rw [e]; exact HAB.out)
  clear hw7 F7 B7 O7 K1 K3 K4 LB e2 e3 e0 HK X7
  by_cases hin : 0 ≤ x ∧ x < (N : Int)
  · obtain ⟨i, hi⟩ : ∃ i : Nat, x = (i : Nat) := ⟨x.toNat, by omega⟩
    subst hi
    have hiN : i < N := by omega
    obtain ⟨xs, hxs⟩ : ∃ xs, tb[i]? = some xs := ⟨_, List.getElem?_eq_getElem (by rw [HT.out.len]; exact hiN)⟩
    have EX : Hid (tabF tb (i : Nat) = xs) := tabF_row rfl hxs
    obtain ⟨v, hv⟩ : ∃ v, vs[i]? = some v := ⟨_, List.getElem?_eq_getElem (by have h := HT.out.rd.1; rw [Nat.mul_one] at h; rw [h]; exact hiN)⟩
    obtain ⟨Ai, ci, rfl, hci, RI0⟩ := HT.out.row i v xs hv hxs
    obtain ⟨ad, rfl, _, t1⟩ := T7.out.rd.cell hv
    have RI := RI0.keep S7.out fun _ _ hl => K7.out _ hl
    have HB0 : Hid (0 < xs.length → ∀ ad, Ai = some ad → ad.block < wt.heap.size) := fun hp ad2 ha => by
      obtain ⟨ad3, e3, h3, _⟩ := RI0.2 hp
      rw [ha] at e3
      injection e3 with e3
      rw [e3]; exact h3
    obtain ⟨q, hq⟩ : ∃ q, xs.length = q := ⟨_, rfl⟩
    rw [hq] at t1 hci RI HB0
    have RIh := Mm.hid RI
    clear hxs hq RI RI0 hv K7
    go_wp2_with fail
    go_ret
    refine ⟨Ai, q, ci, rfl, hci, _, by rw [EX.out]; exact RIh.out, NIx.out, GS.out, fun hp ad2 ha => ?_, FG.out⟩
    have h1 := HB0.out hp ad2 ha
    have := S7.out
    have := HSZ.out
    exact ⟨by omega, .inl (.inl (by omega))⟩
  · have EX : Hid (tabF tb x = []) := tabF_out (by rw [HT.out.len]; omega)
    have FIN : Hid (∃ A n c_1 G', Ending.returned (Value.slice none 0 0) = Ending.returned (Value.slice A n c_1) ∧ n ≤ c_1 ∧ Hid (Rd w7 A n 1 (iL (tabF tb x)) ∧ NI wA ab base v0 d0 (d ++ [x]) G' w7 ∧ (∀ k, G' k → (k < wA.heap.size ∨ (Value.slice A1 m c1).ownBlock = some k) ∨ w.heap.size ≤ k) ∧ (0 < n → ∀ ad, A = some ad → ad.block < w7.heap.size ∧ (G' ad.block ∨ w.heap.size ≤ ad.block)) ∧ Fr (fun k => k < wA.heap.size ∨ (Value.slice A1 m c1).ownBlock = some k) w w7)) := by
      refine ⟨none, 0, 0, _, rfl, Nat.le_refl _, by rw [EX.out]; exact Rd.nil _ _ _, NIx.out, GS.out, fun hp => absurd hp (by omega), FG.out⟩
    by_cases h0 : 0 ≤ x
    · have hge : ¬ x < (N : Int) := by omega
      go_wp2_with fail
      go_ret
      obtain ⟨A, n, c, G', e, h1, h2⟩ := FIN.out
      exact ⟨A, n, c, e, h1, G', h2⟩
    · go_wp2_with fail
      go_ret
      obtain ⟨A, n, c, G', e, h1, h2⟩ := FIN.out
      exact ⟨A, n, c, e, h1, G', h2⟩
end Go.Proofs.Ythjldlgmfplngaa

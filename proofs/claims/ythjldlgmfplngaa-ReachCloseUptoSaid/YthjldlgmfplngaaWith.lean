/- Walk: numbers put on a list, each once, as the document has it. -/
import Derived.Test.YthjldlgmfplngaaSamei
namespace Go.Proofs.Ythjldlgmfplngaa
open Go.RowKit Go.Mm Go.Maps Go.Reach Go.WideMaps
def OwnIE (base : Nat) (v : Value) (l : List Int) (w : World) (e : Ending) (w' : World) : Prop :=
  ∃ A m c, e = .returned (.slice A m c) ∧ m ≤ c ∧ l.length = m ∧ Hid (w'.ownsRow base 3 1 (.slice A m c) m (iL l) ∧ Fr (fun k => v.ownBlock = some k) w w' ∧ (∀ k, (Value.slice A m c).ownBlock = some k → v.ownBlock = some k ∨ w.heap.size ≤ k))
set_option maxRecDepth 100000 in
set_option maxHeartbeats 2000000 in
theorem with_any (base : Nat) (A1 : Option Addr) (m1 c1 : Nat) (l : List Int) (A : Option Addr) (n c : Nat) (ys : List Int) (w : World) (h : w.ownsRow base 3 1 (.slice A1 m1 c1) m1 (iL l)) (hr : Rd w A n 1 (iL ys)) (hA : 0 < n → ∀ ad, A = some ad → (Value.slice A1 m1 c1).ownBlock ≠ some ad.block) (hb : base ≤ w.heap.size) (hc1 : m1 ≤ c1) (hl : (m1 + n) * 8 ≤ 140737488355328) :
    Calls Try.prog 40 #[.slice A1 m1 c1, .slice A n c] w (OwnIE base (.slice A1 m1 c1) (puts l ys) w) := by
  have hlm : l.length = m1 := by have := own_len h; rwa [iL_len] at this
  have hn : ys.length = n := by have := hr.1; rw [iL_len] at this; omega
  have hn9 : n ≤ 17592186044416 := by omega
  have hm9 : m1 ≤ 17592186044416 := by omega
  have R := Mm.hid hr
  have HN := Mm.hid hn
  have HA := Mm.hid hA
  have HB := Mm.hid hb
  have HL := Mm.hid hl
  have HLM := Mm.hid hlm
  have ST : Hid (w.ownsRow base 3 1 (.slice A1 m1 c1) m1 (iL (puts l (ys.take 0))) ∧ Fr (fun k => (Value.slice A1 m1 c1).ownBlock = some k) w w ∧ (∀ k, (Value.slice A1 m1 c1).ownBlock = some k → (Value.slice A1 m1 c1).ownBlock = some k ∨ w.heap.size ≤ k)) := ⟨h, Fr.refl _ _, fun _ h => .inl h⟩
  clear hr hn hA hb hl h
  go_enter Try.func40, Try.ntmps40
  go_wp2_with fail
  go_loopw [0, 5, 6, 7] (fun lv iv _ _ wr => ∃ k m A2 c2, k ≤ n ∧ m ≤ m1 + k ∧ iv = .int .i64 (k : Nat) ∧ lv = .slice A2 m c2 ∧ m ≤ c2 ∧ (puts l (ys.take k)).length = m ∧ Hid (wr.ownsRow base 3 1 (.slice A2 m c2) m (iL (puts l (ys.take k))) ∧ Fr (fun k => (Value.slice A1 m1 c1).ownBlock = some k) w wr ∧ (∀ k, (Value.slice A2 m c2).ownBlock = some k → (Value.slice A1 m1 c1).ownBlock = some k ∨ w.heap.size ≤ k))) (fun _ iv _ _ _ => n - (intOf iv).toNat)
  case atStart => exact ⟨0, m1, A1, c1, Nat.zero_le _, Nat.le_refl _, rfl, rfl, hc1, hlm, ST.out⟩
  case round =>
    obtain ⟨k, m, A2, c2, hk, hm, rfl, rfl, hc2, hlen, HQ⟩ := hrel
    clear ST
    by_cases hlt : k < n
    · obtain ⟨y, hy⟩ : ∃ y, ys[k]? = some y := ⟨_, List.getElem?_eq_getElem (by rw [HN.out]; exact hlt)⟩
      obtain ⟨ad, rfl, _, f1⟩ := (HQ.out.2.1.rd R.out fun ad ha e => HA.out (by omega) ad ha e).cell (iL_get hy)
      have PT := Mm.hid (putsi_take (l := l) hy)
      have LN := Mm.hid hlen
      clear hy
      obtain ⟨w5, hw5⟩ : ∃ w5, w5 = wr := ⟨_, rfl⟩
      subst hw5
      obtain ⟨L, hL⟩ : ∃ L, puts l (ys.take k) = L := ⟨_, rfl⟩
      rw [hL] at PT HQ LN
      clear hL hlen
      have RQ := Mm.hid (Rd.of_own HQ.out.1)
      go_wp2_with fail
      go_loopw [6, 7] (fun bv jv wq => ∃ (j d : Nat) (b : Bool), j ≤ m ∧ jv = .int .i64 (j : Nat) ∧ bv = .bool b ∧ Hid (b = decide (y ∈ L.take j)) ∧ wq = w5.drewN d) (fun _ jv _ => m - (intOf jv).toNat)
      case atStart => exact ⟨0, 0, false, Nat.zero_le _, rfl, rfl, by simp [Hid], rfl⟩
      case round =>
        obtain ⟨j, d, b, hj, rfl, rfl, HBb, rfl⟩ := hrel
        by_cases hjm : j < m
        · obtain ⟨z, hz⟩ : ∃ z, L[j]? = some z := ⟨_, List.getElem?_eq_getElem (by rw [LN.out]; exact hjm)⟩
          obtain ⟨ad2, rfl, _, g1⟩ := RQ.out.cell (iL_get hz)
          have TK : Hid (L.take (j + 1) = L.take j ++ [z]) := take_snoc' hz
          clear hz
          cases hb : b with
          | true =>
            have NX : Hid (true = decide (y ∈ L.take (j + 1))) := by
              show _ = _
              have h := HBb.out
              rw [hb] at h
              have h2 := of_decide_eq_true h.symm
              rw [TK.out]
              exact (decide_eq_true (List.mem_append_left _ h2)).symm
            clear HBb hb
            go_wp2_with fail
            go_quiet (fail)
            go_wp2
            go_roundw
            case rel => exact ⟨j + 1, _, true, by omega, by go_num, rfl, NX, rfl⟩
            case measure => simp [intOf] <;> omega
          | false =>
            have HNI : y ∉ L.take j := by
              have h := HBb.out
              rw [hb] at h
              exact of_decide_eq_false h.symm
            by_cases hzy : z = y
            · subst hzy
              have NX : Hid (true = decide (z ∈ L.take (j + 1))) := by
                show _ = _
                rw [TK.out]
                simp
              clear HBb hb HNI
              go_wp2_with fail
              go_quiet (fail)
              go_wp2
              go_roundw
              case rel => exact ⟨j + 1, _, true, by omega, by go_num, rfl, NX, rfl⟩
              case measure => simp [intOf] <;> omega
            · have hzb : (z == y) = false := beq_eq_false_iff_ne.2 hzy
              have NX : Hid (false = decide (y ∈ L.take (j + 1))) := by
                show _ = _
                rw [TK.out]
                simp [HNI, Ne.symm hzy]
              clear HBb hb HNI hzy
              go_wp2_with fail
              go_quiet (fail)
              go_wp2
              go_roundw
              case rel => exact ⟨j + 1, _, false, by omega, by go_num, rfl, NX, rfl⟩
              case measure => simp [intOf] <;> omega
        · have hje : j = m := by omega
          subst hje
          have FIN : Hid (b = decide (y ∈ L)) := by
            have h := HBb.out
            rwa [List.take_of_length_le (by rw [LN.out]; exact Nat.le_refl _)] at h
          clear HBb
          have FD : Hid (Fr (fun _ => False) w5 (w5.drewN d)) := Mm.hid (Fr.drewN (fun _ => False) _ _)
          cases hb : b with
          | true =>
            have NX : Hid ((puts l (ys.take (k + 1))).length = j ∧ ((w5.drewN d).ownsRow base 3 1 (.slice A2 j c2) j (iL (puts l (ys.take (k + 1)))) ∧ Fr (fun k => (Value.slice A1 m1 c1).ownBlock = some k) w (w5.drewN d) ∧ (∀ k, (Value.slice A2 j c2).ownBlock = some k → (Value.slice A1 m1 c1).ownBlock = some k ∨ w.heap.size ≤ k))) := by
              show _ ∧ _
              have h := FIN.out
              rw [hb] at h
              rw [PT.out, put1_in (of_decide_eq_true h.symm)]
              exact ⟨LN.out, FD.out.own HQ.out.1 fun _ _ h => h, HQ.out.2.1.trans FD.out fun _ _ h => h.elim, HQ.out.2.2⟩
            clear FIN hb FD
            go_wp2_with fail
            go_roundw
            case rel => exact ⟨k + 1, j, A2, c2, by omega, by omega, by go_num, rfl, hc2, NX.out.1, NX.out.2⟩
            case measure => simp [intOf] <;> omega
          | false =>
            have NI : Hid (y ∉ L) := by
              have h := FIN.out
              rw [hb] at h
              exact of_decide_eq_false h.symm
            obtain ⟨w6, hw6⟩ : ∃ w6, w5.drewN d = w6 := ⟨_, rfl⟩
            rw [hw6] at FD ⊢
            have f2 : w6.cell? (ad.add k) = some (.int .i64 y) := FD.out.cell f1 fun h => h
            have R6 := Mm.hid (FD.out.own HQ.out.1 fun _ _ h => h)
            have F6 := Mm.hid (HQ.out.2.1.trans FD.out fun _ _ h => h.elim)
            have SZ : Hid (base ≤ w6.heap.size) := by show _ ≤ _; have := F6.out.size; have := HB.out; omega
            have HS1 : Hid (∀ u ∈ (#[.int .i64 y] : Array Value).toList, u.oneCell' = true) := by intro u hu; simp at hu; subst hu; rfl
            have HLm : Hid ((j + 1) * 8 ≤ 140737488355328) := by show _ ≤ _; have := HL.out; omega
            clear FIN hb hw6 f1
            go_wp2_with (at_builtin; go_must (refine wp_ape1 base rfl (.tmp 34) (.tmp 39) 22 3 (.int .i64 0) 1 8 #[.int .i64 y] rfl Try.underlying22 info3 rfl (by decide) (by decide) (.slice A2 j c2) j _ rfl rfl rfl HS1.out R6.out (Below.refl _ _) SZ.out HLm.out ?_; intro v1 wb k1 k2 k3 k4; obtain ⟨A3, c3, hv, hc3, _, _⟩ := own_slice k1; subst hv; have K1 := Mm.hid k1; have K3 := Mm.hid k3; have K4 := Mm.hid (k4_of k4); clear k1 k2 k3 k4))
            have NX : Hid ((puts l (ys.take (k + 1))).length = j + 1 ∧ (wb.ownsRow base 3 1 (.slice A3 (j + 1) c3) (j + 1) (iL (puts l (ys.take (k + 1)))) ∧ Fr (fun k => (Value.slice A1 m1 c1).ownBlock = some k) w wb ∧ (∀ k, (Value.slice A3 (j + 1) c3).ownBlock = some k → (Value.slice A1 m1 c1).ownBlock = some k ∨ w.heap.size ≤ k))) := by
              show _ ∧ _
              rw [PT.out, put1_out NI.out, ← iL_snoc]
              refine ⟨by simp [LN.out], K1.out, F6.out.trans (Fr.grown K3.out) fun b hb e => ?_, fun b hb => ?_⟩
              · rcases HQ.out.2.2 b e with h | h
                · exact h
                · omega
              · rcases K4.out b hb with h | h
                · exact HQ.out.2.2 b h
                · exact .inr (Nat.le_trans F6.out.size h)
            go_roundw
            case rel => exact ⟨k + 1, j + 1, A3, c3, by omega, by omega, by go_num, rfl, hc3, NX.out.1, NX.out.2⟩
            case measure => simp [intOf] <;> omega
    · have hkn : k = n := by omega
      subst hkn
      have hty : ys.take k = ys := List.take_of_length_le (by rw [HN.out]; exact Nat.le_refl _)
      rw [hty] at hlen HQ
      have QH := Mm.hid HQ.out
      clear HQ hty
      go_wp2_with fail
      go_ret
      exact ⟨A2, m, c2, rfl, hc2, hlen, QH.out⟩
end Go.Proofs.Ythjldlgmfplngaa

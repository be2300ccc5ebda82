/- Walk: are rows as they were, and the marked places too? -/
import Derived.Test.YthjldlgmfplngaaRows3
namespace Go.Proofs.Ythjldlgmfplngaa
open Go.RowKit Go.Mm Go.Maps Go.Reach Go.WideMaps
theorem frn_alloc {w w1 : World} (h : Fr (fun _ => False) w w1) (o : Obj) : Fr (fun _ => False) w (w1.alloc o) := h.trans (Fr.alloc (fun _ => False) w1 o) fun _ _ h => h
theorem frn_drew {w w1 : World} (h : Fr (fun _ => False) w w1) : Fr (fun _ => False) w w1.drew := h.trans (Fr.drew (fun _ => False) w1) fun _ _ h => h
theorem frn_drewN {w w1 : World} (h : Fr (fun _ => False) w w1) (n : Nat) : Fr (fun _ => False) w (w1.drewN n) := h.trans (Fr.drewN (fun _ => False) w1 n) fun _ _ h => h
theorem samei_true (A1 : Option Addr) (c1 : Nat) (A2 : Option Addr) (c2 n : Nat) (xs : List Int) (w : World) (h1 : Rd w A1 n 1 (iL xs)) (h2 : Rd w A2 n 1 (iL xs)) (hc1 : n ≤ c1) (hc2 : n ≤ c2) (hb : n ≤ 4611686018427387904) :
    Calls Try.prog 16 #[.slice A1 n c1, .slice A2 n c2] w (SameEnds true w) :=
  (samei_any A1 n c1 A2 n c2 xs xs w h1 h2 hc1 hc2 hb).mono fun _ _ ⟨e, d⟩ => ⟨by rw [e]; simp, d⟩
/-- a part of a row -/
theorem rd_part {w : World} {base e : Nat} {g cap m q : Nat} {ys zs : List Value} (h : w.ownsRow base e 1 (.slice (some ⟨g, 0, none⟩) m cap) m ys) (k : Nat) (hk : q + k ≤ m) (hz : (ys.drop q).take k = zs) : Rd w (some ⟨g, q, none⟩) k 1 zs := by
  have hl : ys.length = m := own_len h
  refine ⟨by rw [← hz, List.length_take, List.length_drop, Nat.mul_one]; omega, fun hp => ⟨_, rfl, ?_, fun j u hu => ?_⟩⟩
  · exact (own_lt h rfl).2
  · rw [← hz] at hu
    have hj : j < k := by
      have := (List.getElem?_eq_some_iff.1 hu).1
      rw [List.length_take] at this; omega
    rw [List.getElem?_take_of_lt hj, List.getElem?_drop] at hu
    obtain ⟨g', cap', hv, _, _, _, hcell, _⟩ := own_blk h (by omega)
    injection hv with e1 _ _
    injection e1 with e1
    injection e1 with e1
    subst e1
    rw [show (⟨g, q, none⟩ : Addr).add j = ⟨g, q + j, none⟩ from by unfold Addr.add; by_cases h0 : j = 0 <;> simp [h0]]
    exact hcell _ _ hu
set_option maxRecDepth 100000 in
set_option maxHeartbeats 2000000 in
theorem unt_any (base : Nat) (A1 : Option Addr) (n c1 : Nat) (vs : List Value) (A2 : Option Addr) (c2 : Nat) (vs2 : List Value) (tb : List (List Int)) (w : World) (h1 : Rd w A1 n 1 vs) (hR : RowsB base vs tb w) (h2 : TabR w A2 n vs2 tb) (hn : n ≤ 1099511627776) (hlt : ∀ xs ∈ tb, xs.length ≤ 1099511627776) :
    Calls Try.prog 17 #[.slice A1 n c1, .slice A2 n c2] w fun e w' => e = .returned (.bool true) ∧ Hid (Fr (fun _ => False) w w') := by
  have R1 := Mm.hid h1
  have RB := Mm.hid hR
  have T := Mm.hid h2
  have HLT := Mm.hid hlt
  clear h1 hR h2 hlt
  go_enter Try.func17, Try.ntmps17
  go_wp2_with fail
  go_loopw [5, 6, 7] (fun iv _ _ wr => ∃ k, k ≤ n ∧ iv = .int .i64 (k : Nat) ∧ Hid (Fr (fun _ => False) w wr)) (fun iv _ _ _ => n - (intOf iv).toNat)
  case atStart => exact ⟨0, Nat.zero_le _, rfl, Mm.hid (Fr.refl _ _)⟩
  case round =>
    obtain ⟨k, hk, rfl, HF⟩ := hrel
    by_cases hlt : k < n
    · obtain ⟨xs, hxs⟩ : ∃ xs, tb[k]? = some xs := ⟨_, List.getElem?_eq_getElem (by rw [T.out.len]; exact hlt)⟩
      obtain ⟨v, hv⟩ : ∃ v, vs[k]? = some v := ⟨_, List.getElem?_eq_getElem (by rw [RB.out.len, T.out.len]; exact hlt)⟩
      obtain ⟨ad2, Ai, ci, rfl, t2, hci, RI⟩ := (T.out.fr HF.out).at hxs
      obtain ⟨g, cap, rfl, hcap, hrow⟩ := (RB.out.fr HF.out fun _ h => h.elim).row k v xs hv hxs
      obtain ⟨ad1, rfl, _, t1⟩ := (HF.out.rd R1.out fun _ _ h => h).cell hv
      have hq9 := HLT.out xs (List.mem_of_getElem? hxs)
      obtain ⟨q, hq⟩ : ∃ q, xs.length = q := ⟨_, rfl⟩
      rw [hq] at t1 t2 hci RI hcap hrow hq9
      have RA : Hid (∀ W, Fr (fun _ => False) wr W → Rd W (some ⟨g, 0, none⟩) q 1 (iL xs)) := fun W hf => by
        have h := (Rd.of_own (hf.own hrow fun _ _ h => h)).take (m := q) (by omega)
        rw [iL_take, List.take_left' hq] at h
        exact h
      have RBk : Hid (∀ W, Fr (fun _ => False) wr W → Rd W Ai q 1 (iL xs)) := fun W hf => hf.rd RI fun _ _ h => h
      have RS : Hid (∀ W, Fr (fun _ => False) wr W → Rd W (some ⟨g, q, none⟩) 4 1 (iL sev)) := fun W hf => by
        refine rd_part (hf.own hrow fun _ _ h => h) 4 (by omega) ?_
        rw [← iL_append, List.drop_left' (by rw [iL_len]; exact hq)]
        rfl
      have F0 := Mm.hid (Fr.refl (fun _ => False) wr)
      have hw4 : IntKind.i64.wrap ((q : Int) + 4) = (q : Int) + 4 := by
        exact IntWalk.i64_in _ (by omega)
      have s1 : (0 : Int) ≤ (q : Int) + 4 := by omega
      have s2 : (q : Int) + 4 ≤ (cap : Int) := by omega
      have s3 : q ≤ ((q : Int) + 4).toNat := by omega
      have s4 : ((q : Int) + 4).toNat - q = 4 := by omega
      have hnq : ¬ cap = q := by omega
      clear hxs hv RI hrow hq
      go_wp2_with fail
      have C1 : Hid (∀ W, Fr (fun _ => False) wr W → Calls Try.prog 16 #[.slice (some ⟨g, 0, none⟩) q cap, .slice Ai q ci] W (SameEnds true W)) := fun W hf => samei_true _ _ _ _ _ xs W (RA.out W hf) (RBk.out W hf) (by omega) hci (by omega)
      have C2 : Hid (∀ W g2, Fr (fun _ => False) wr W → Blk W g2 3 #[.int .i64 (-7), .int .i64 (-7), .int .i64 (-7), .int .i64 (-7)] → Calls Try.prog 16 #[.slice (some ⟨g, q, none⟩) 4 (cap - q), .slice (some ⟨g2, 0, none⟩) 4 4] W (SameEnds true W)) := fun W g2 hf hb => samei_true _ _ _ _ _ sev W (RS.out W hf) ⟨rfl, fun _ => ⟨_, rfl, hb.lt, fun j u hu => by
        rw [add_plain, hb.cell]
        rw [← hu]
        rcases j with _ | _ | _ | _ | j <;> rfl⟩⟩ (by omega) (by omega) (by omega)
      clear RA RBk RS
      go_region_held3 (fun w' => w'.cell? (ad1.add k) = some (.slice (some ⟨g, 0, none⟩) q cap) ∧ w'.cell? (ad2.add k) = some (.slice Ai q ci)) (go_keep)
        (first | (go_at_call 16; have F6' := F6; clear F6'; refine (C2.out _ _ (by with_reducible repeat (first | exact F6.out | apply frn_drew | apply frn_alloc)) (Blk.new _ _ _)).mono ?_; rintro e w7 ⟨rfl, d, hw7⟩; have F7 : Hid (Fr (fun _ => False) wr w7) := (by show Fr _ _ _; rw [hw7]; exact frn_drewN (by with_reducible repeat (first | exact F6.out | apply frn_drew | apply frn_alloc)) _); have y1 : w7.cell? (ad1.add k) = some (.slice (some ⟨g, 0, none⟩) q cap) := F7.out.cell t1 (fun h => h); have y2 : w7.cell? (ad2.add k) = some (.slice Ai q ci) := F7.out.cell t2 (fun h => h); clear hw7) | (go_at_call 16; refine (C1.out _ (by with_reducible repeat (first | exact F0.out | apply frn_drew | apply frn_alloc))).mono ?_; rintro e w6 ⟨rfl, d, hw6⟩; have F6 : Hid (Fr (fun _ => False) wr w6) := (by show Fr _ _ _; rw [hw6]; exact frn_drewN (by with_reducible repeat (first | exact F0.out | apply frn_drew | apply frn_alloc)) _); have z1 : w6.cell? (ad1.add k) = some (.slice (some ⟨g, 0, none⟩) q cap) := F6.out.cell t1 (fun h => h); have z2 : w6.cell? (ad2.add k) = some (.slice Ai q ci) := F6.out.cell t2 (fun h => h); clear hw6))
      have NX : Hid (Fr (fun _ => False) w w7) := HF.out.trans F7.out fun _ _ h => h
      clear z1 z2 y1 y2 t1 t2 C1 C2
      go_wp2
      go_roundw
      case rel => exact ⟨k + 1, by omega, by go_num, NX⟩
      case measure => simp [intOf] <;> omega
    · have hkn : k = n := by omega
      subst hkn
      go_wp2_with fail
      go_ret
      exact ⟨rfl, HF⟩
end Go.Proofs.Ythjldlgmfplngaa

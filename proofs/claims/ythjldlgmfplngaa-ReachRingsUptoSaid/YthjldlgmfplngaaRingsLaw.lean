/- The walk of ReachRings. -/
import Derived.Test.YthjldlgmfplngaaRq
import Derived.Test.YthjldlgmfplngaaRings
namespace Go.Proofs.Ythjldlgmfplngaa
open Go.RowKit Go.Mm Go.Maps Go.Reach Go.WideMaps
theorem rings_cnt (ps : List Pr) : (ringsL ps).length ≤ 2 * ps.length := by
  rw [← ahd_end]
  exact Nat.le_trans (ahd_len _ _) (cnt_two ps)
theorem ring_cnt {ps : List Pr} {i : Nat} {l : List ByteArray} (h : (ringsL ps)[i]? = some l) : l.length ≤ 2 * ps.length := by
  obtain ⟨j, _, _, _, rfl⟩ := ring_at h
  exact Nat.le_trans (rgw_len ps j (cnt ps)) (cnt_two ps)
/-- the lists to be looked at, so many turns -/
structure LsR (base m k7 k8 : Nat) (gv1 gv2 gw : List Value) (v7 v8 : Value) (w0 w : World) : Prop where
  a : w.ownsRow base 33 1 v7 (k7 * 4) (qd (gt gv1) (gt gv2) nilS k7)
  b : w.ownsRow base 33 1 v8 (k8 * 4) (qd (gt gw) (gt gw) nilS k8)
  d : ∀ b, v7.ownBlock = some b → v8.ownBlock ≠ some b
  bel : Below base w0 w
theorem LsR.pushA {base m k7 k8 : Nat} {gv1 gv2 gw cs : List Value} {v7 v8 v1 : Value} {w0 w W wa : World} (h : LsR base m k7 k8 gv1 gv2 gw v7 v8 w0 w) (hB : base ≤ w.heap.size) (hf : Fr (fun _ => False) w W)
    (k1 : wa.ownsRow base 33 1 v1 (k7 * 4 + 4) (qd (gt gv1) (gt gv2) nilS k7 ++ cs)) (k3 : W.grownBy wa v7.ownBlock) (k4 : v1.ownBlock = v7.ownBlock ∨ v1.ownBlock = some W.heap.size) (hq : qd (gt gv1) (gt gv2) nilS (k7 + 1) = qd (gt gv1) (gt gv2) nilS k7 ++ cs) :
    LsR base m (k7 + 1) k8 gv1 gv2 gw v1 v8 w0 wa := by
  have f1 : Fr (fun k => v7.ownBlock = some k) W wa := Fr.grown k3
  have oa := hf.own h.a fun _ _ h => h
  have ob := hf.own h.b fun _ _ h => h
  refine ⟨by rw [hq, Nat.succ_mul]; exact k1, f1.own ob fun b hb e => h.d b e hb, fun b hb hb' => ?_, ?_⟩
  · rcases k4 with e | e
    · exact h.d b (e ▸ hb) hb'
    · rw [e] at hb
      injection hb with hb
      have := (own_lt ob hb').2
      omega
  · exact (h.bel.trans (hf.below (fun _ h => h.elim) hB)).grown k3 (Nat.le_trans hB hf.size) fun j hj => (own_lt oa hj).1
theorem LsR.pushB {base m k7 k8 : Nat} {gv1 gv2 gw cs : List Value} {v7 v8 v1 : Value} {w0 w W wa : World} (h : LsR base m k7 k8 gv1 gv2 gw v7 v8 w0 w) (hB : base ≤ w.heap.size) (hf : Fr (fun _ => False) w W)
    (k1 : wa.ownsRow base 33 1 v1 (k8 * 4 + 4) (qd (gt gw) (gt gw) nilS k8 ++ cs)) (k3 : W.grownBy wa v8.ownBlock) (k4 : v1.ownBlock = v8.ownBlock ∨ v1.ownBlock = some W.heap.size) (hq : qd (gt gw) (gt gw) nilS (k8 + 1) = qd (gt gw) (gt gw) nilS k8 ++ cs) :
    LsR base m k7 (k8 + 1) gv1 gv2 gw v7 v1 w0 wa := by
  have f1 : Fr (fun k => v8.ownBlock = some k) W wa := Fr.grown k3
  have oa := hf.own h.a fun _ _ h => h
  have ob := hf.own h.b fun _ _ h => h
  refine ⟨f1.own oa fun b hb e => h.d b hb e, by rw [hq, Nat.succ_mul]; exact k1, fun b hb hb' => ?_, ?_⟩
  · rcases k4 with e | e
    · exact h.d b hb (e ▸ hb')
    · rw [e] at hb'
      injection hb' with hb'
      have := (own_lt oa hb).2
      omega
  · exact (h.bel.trans (hf.below (fun _ h => h.elim) hB)).grown k3 (Nat.le_trans hB hf.size) fun j hj => (own_lt ob hj).1
theorem four_one (P1 P2 : Option Addr) (L d1 d2 : Nat) : ∀ u ∈ (#[Value.slice P1 L d1, .slice none 0 0, .slice P2 L d2, .slice none 0 0] : Array Value).toList, u.oneCell' = true := by
  intro u hu
  simp at hu
  rcases hu with rfl | rfl | rfl | rfl <;> rfl
set_option maxRecDepth 100000 in
set_option maxHeartbeats 8000000 in
theorem law_rings (A : Option Addr) (N c : Nat) (ps : List Pr) (w : World) (h : Sl w 2 32 fPr gPr A N c ps) (hu : N ≤ 1048576) :
    Calls Try.prog 7 #[.slice A N c] w fun e w' => e = .returned (.bool true) ∧ Below w.heap.size w w' := by
  have R := Mm.hid h.rd
  have HN := Mm.hid h.len
  have hcap : N ≤ c := h.cap
  have hroom : N * 32 ≤ 140737488351232 := h.room
  have HR := Mm.hid hroom
  have hN9 : N ≤ 4398046511104 := by omega
  have HS := Mm.hid (gPr_szs h.good)
  have HU := Mm.hid hu
  clear h hroom
  go_enter Try.func7, Try.ntmps7
  go_wp2_with fail
  refine (rrings_any ps A N c w R.out HN.out HU.out).mono ?_
  rintro e w1 ⟨Aw, m, cw, gw, rfl, hcw, RW⟩
  have F1 := Mm.hid (Fr.of_below RW.out.2.2)
  go_wp2_with fail
  refine (twin_any _ _ _ ps _ (F1.out.rd R.out fun _ _ h => h) HN.out HR.out).mono ?_
  rintro e w2 ⟨g, cm, rfl, hcm, hcm9, PM⟩
  have F12 := Mm.hid (Fr.of_below PM.out.1.fr)
  go_wp2_with fail
  refine (rings_any ps _ _ _ _ (mine_rd PM.out.1.row HN.out) HN.out HS.out (by omega)).mono ?_
  rintro e w3 ⟨A1, m1, c1, gv1, rfl, hc1, G1⟩
  obtain rfl : m1 = m := G1.out.1.symm.trans RW.out.1
  have F23 := Mm.hid (Fr.of_below G1.out.2.2)
  have M3 := Mm.hid (F23.out.own PM.out.1.row fun _ _ h => h)
  go_wp2_with fail
  refine (rings_any ps _ _ _ _ (mine_rd M3.out HN.out) HN.out HS.out (by omega)).mono ?_
  rintro e w4 ⟨A2, m2, c2, gv2, rfl, hc2, G2⟩
  obtain rfl : m2 = m1 := G2.out.1.symm.trans RW.out.1
  have F34 := Mm.hid (Fr.of_below G2.out.2.2)
  have M4 := Mm.hid (F34.out.own M3.out fun _ _ h => h)
  have F24 := Mm.hid (F23.out.trans F34.out fun _ _ h => h)
  have F04 := Mm.hid ((F1.out.trans F12.out fun _ _ h => h).trans F24.out fun _ _ h => h)
  go_wp2_with fail
  refine (kept_any w1.heap.size g cm A N c ps _ ⟨M4.out, F04.out.rd R.out fun _ _ h => h, HN.out⟩ hN9 hcm hcm9 hcap).mono ?_
  rintro e w5 ⟨rfl, d, hw⟩
  have F45 : Hid (Fr (fun _ => False) w4 w5) := by show Fr _ _ _; rw [hw]; exact Fr.drewN (fun _ => False) _ _
  have F25 := Mm.hid (F24.out.trans F45.out fun _ _ h => h)
  have F35 := Mm.hid (F34.out.trans F45.out fun _ _ h => h)
  have WB := Mm.hid ((RW.out.2.1.frn F12.out).frn F25.out)
  have B1 := Mm.hid (G1.out.2.1.frn F35.out)
  have B2 := Mm.hid (G2.out.2.1.frn F45.out)
  have RL : Hid ((ringsL ps).length = m2) := RW.out.1
  have WBD : Hid (∀ u ∈ gw, ∀ b, u.ownBlock = some b → b < w2.heap.size) := fun u hu b hb => Nat.lt_of_lt_of_le (RW.out.2.1.fam.blk u hu b hb).2 F12.out.size
  have GBD : Hid (∀ u ∈ gv1, ∀ b, u.ownBlock = some b → b < w3.heap.size) := fun u hu b hb => (G1.out.2.1.fam.blk u hu b hb).2
  have WRR : Hid (RRd w.heap.size w1.heap.size w1 Aw m2 (ringsL ps)) := RRd.of RW.out.2.1
  have hm9 : m2 ≤ 2097152 := by
    have h1 := rings_cnt ps
    have h2 : (ringsL ps).length = m2 := RL.out
    have h3 : ps.length = N := HN.out
    have h4 : N ≤ 1048576 := HU.out
    omega
  have ABD : Hid (∀ b, (Value.slice A1 m2 c1).ownBlock = some b → b < w3.heap.size) := fun b hb => (own_lt G1.out.2.1.own hb).2
  clear hw M4 F24 F04 F35 RW G1 G2 hu
  go_wp2_with fail
  have ST : Hid (LsR w5.heap.size m2 0 0 gv1 gv2 gw (.slice none 0 0) (.slice none 0 0) w5 w5) := ⟨⟨rfl, .inl ⟨rfl, rfl⟩⟩, ⟨rfl, .inl ⟨rfl, rfl⟩⟩, fun b hb => (by cases hb), Below.refl _ _⟩
  go_loopw [7, 8, 9] (fun v7 v8 iv wr => ∃ (k c7 c8 : Nat) (A7 A8 : Option Addr), k ≤ m2 ∧ v7 = .slice A7 (k * 4) c7 ∧ v8 = .slice A8 (k * 4) c8 ∧ k * 4 ≤ c7 ∧ k * 4 ≤ c8 ∧ iv = .int .i64 (k : Nat) ∧ Hid (LsR w5.heap.size m2 k k gv1 gv2 gw (.slice A7 (k * 4) c7) (.slice A8 (k * 4) c8) w5 wr)) (fun _ _ iv _ => m2 - (intOf iv).toNat)
  case atStart => exact ⟨0, 0, 0, none, none, Nat.zero_le _, rfl, rfl, Nat.le_refl _, Nat.le_refl _, rfl, ST⟩
  case round =>
    obtain ⟨k, c7, c8, A7, A8, hk, rfl, rfl, hc7, hc8, rfl, HK⟩ := hrel
    clear ST
    by_cases hlt : k < m2
    · have FK := Mm.hid (Fr.of_below HK.out.bel)
      have l1 : gv1.length = m2 := own_len B1.out.own
      have l2 : gv2.length = m2 := own_len B2.out.own
      have lw : gw.length = m2 := own_len WB.out.own
      have n1 := gt_at (gv := gv1) (j := k) (by omega)
      have n2 := gt_at (gv := gv2) (j := k) (by omega)
      have nw := gt_at (gv := gw) (j := k) (by omega)
      have hr := gl_map (rs := ringsL ps) (j := k) (by rw [RL.out]; exact hlt)
      obtain ⟨P1, d1, e1, _, _, _⟩ := own_slice (B1.out.fam.own k _ _ n1 hr)
      obtain ⟨P2, d2, e2, _, _, _⟩ := own_slice (B2.out.fam.own k _ _ n2 hr)
      obtain ⟨P3, d3, e3, _, _, _⟩ := own_slice (WB.out.fam.own k _ _ nw hr)
      generalize hL : (strs (gl (ringsL ps) k)).length = L at e1 e2 e3
      obtain ⟨ad1, rfl, _, t1⟩ := (Rd.of_own (FK.out.own B1.out.own fun _ _ h => h)).cell n1
      obtain ⟨ad2, rfl, _, t2⟩ := (Rd.of_own (FK.out.own B2.out.own fun _ _ h => h)).cell n2
      obtain ⟨ad3, rfl, _, t3⟩ := (Rd.of_own (FK.out.own WB.out.own fun _ _ h => h)).cell nw
      rw [e1] at t1
      rw [e2] at t2
      rw [e3] at t3
      have Q7 : Hid (qd (gt gv1) (gt gv2) nilS (k + 1) = qd (gt gv1) (gt gv2) nilS k ++ [.slice P1 L d1, .slice none 0 0, .slice P2 L d2, .slice none 0 0]) := by show _ = _; rw [qd_succ, e1, e2]; rfl
      have Q8 : Hid (qd (gt gw) (gt gw) nilS (k + 1) = qd (gt gw) (gt gw) nilS k ++ [.slice P3 L d3, .slice none 0 0, .slice P3 L d3, .slice none 0 0]) := by show _ = _; rw [qd_succ, e3]; rfl
      have NW := Mm.hid nw
      have E3 := Mm.hid e3
      clear hL e1 e2 e3 n1 n2 nw hr l1 l2 lw
      have HL4 : Hid ((k * 4 + 4) * 24 ≤ 140737488355328) := by show _ ≤ _; omega
      have SZ := Mm.hid HK.out.bel.size
      obtain ⟨W, hW⟩ : ∃ W, (wr.alloc (.cells #[.slice P1 L d1, .slice none 0 0, .slice P2 L d2, .slice none 0 0] 33)).drew = W := ⟨_, rfl⟩
      have BX : Hid (Blk W wr.heap.size 33 #[.slice P1 L d1, .slice none 0 0, .slice P2 L d2, .slice none 0 0]) := by show Blk _ _ _ _; rw [← hW]; exact (Blk.new wr _ _).keep rfl
      have B6 : Hid (Fr (fun _ => False) wr W) := by show Fr _ _ _; rw [← hW]; exact (Fr.alloc (fun _ => False) _ _).trans (Fr.drew _ _) fun _ _ h => h
      have R6 := Mm.hid (B6.out.own HK.out.a fun _ _ h => h)
      have SZ6 : Hid (w5.heap.size ≤ W.heap.size) := Nat.le_trans SZ.out B6.out.size
      have HS4 := Mm.hid (four_one P1 P2 L d1 d2)
      have HW := Mm.hid hW
      clear hW
      go_upto_region 12 with (fail)
      go_cut [7] from 54 to 64 (fun v7 wc => ∃ A7 c7, v7 = .slice A7 (k * 4 + 4) c7 ∧ k * 4 + 4 ≤ c7 ∧ Hid (LsR w5.heap.size m2 (k + 1) k gv1 gv2 gw (.slice A7 (k * 4 + 4) c7) (.slice A8 (k * 4) c8) w5 wc))
      case first =>
        go_region_law ((rw [HW.out]; refine step_apek w5.heap.size rfl (.tmp 54) (.tmp 63) 49 33 (.slice none 0 0) 1 24 #[.slice P1 L d1, .slice none 0 0, .slice P2 L d2, .slice none 0 0] wr.heap.size 4 rfl Try.underlying49 info33 rfl (by decide) (by decide) (.slice A7 (k * 4) c7) (k * 4) _ rfl rfl BX.out rfl HS4.out R6.out SZ6.out HL4.out ?_; intro v1 wa k1 k3 k4; obtain ⟨D7, e7, hv, he7, _, _⟩ := own_slice k1; subst hv; have NX := Mm.hid (HK.out.pushA SZ.out B6.out k1 k3 k4 Q7.out); clear k1 k3 k4))
        all_goals (
          go_wp2_with fail
          go_meet
          exact ⟨D7, e7, rfl, he7, NX⟩)
      case rest =>
        obtain ⟨D7, e7, rfl, he7, HK2⟩ := hcut
        rename_i wc
        have SZ2 := Mm.hid HK2.out.bel.size
        have FK2 := Mm.hid (Fr.of_below HK2.out.bel)
        obtain ⟨ad4, e4, _, t4⟩ := (Rd.of_own (FK2.out.own WB.out.own fun _ _ h => h)).cell NW.out
        injection e4 with e4
        subst e4
        rw [E3.out] at t4
        clear t1 t2 t3 HK FK B6 R6 SZ6 BX HW HS4 SZ
        obtain ⟨W2, hW⟩ : ∃ W2, (wc.alloc (.cells #[.slice P3 L d3, .slice none 0 0, .slice P3 L d3, .slice none 0 0] 33)).drew = W2 := ⟨_, rfl⟩
        have BX : Hid (Blk W2 wc.heap.size 33 #[.slice P3 L d3, .slice none 0 0, .slice P3 L d3, .slice none 0 0]) := by show Blk _ _ _ _; rw [← hW]; exact (Blk.new wc _ _).keep rfl
        have B6 : Hid (Fr (fun _ => False) wc W2) := by show Fr _ _ _; rw [← hW]; exact (Fr.alloc (fun _ => False) _ _).trans (Fr.drew _ _) fun _ _ h => h
        have R6 := Mm.hid (B6.out.own HK2.out.b fun _ _ h => h)
        have SZ6 : Hid (w5.heap.size ≤ W2.heap.size) := Nat.le_trans SZ2.out B6.out.size
        have HS4 := Mm.hid (four_one P3 P3 L d3 d3)
        have HW := Mm.hid hW
        clear hW NW E3
        go_upto_region 13 with (fail)
        go_region_law ((rw [HW.out]; refine step_apek w5.heap.size rfl (.tmp 65) (.tmp 74) 49 33 (.slice none 0 0) 1 24 #[.slice P3 L d3, .slice none 0 0, .slice P3 L d3, .slice none 0 0] wc.heap.size 4 rfl Try.underlying49 info33 rfl (by decide) (by decide) (.slice A8 (k * 4) c8) (k * 4) _ rfl rfl BX.out rfl HS4.out R6.out SZ6.out HL4.out ?_; intro v1 wa k1 k3 k4; obtain ⟨D8, e8, hv, he8, _, _⟩ := own_slice k1; subst hv; have NX := Mm.hid (HK2.out.pushB SZ2.out B6.out k1 k3 k4 Q8.out); clear k1 k3 k4))
        all_goals (
          have ek : k * 4 + 4 = (k + 1) * 4 := by omega
          rw [ek] at NX he7 he8
          rw [ek]
          clear ek t4 HK2 Q7 Q8 BX HW
          go_wp2_with fail
          go_roundw
          case rel => exact ⟨k + 1, e7, e8, D7, D8, by omega, rfl, rfl, he7, he8, by go_num, NX⟩
          case measure => simp [intOf] <;> omega)
    · have hkm : k = m2 := by omega
      subst hkm
      have FK := Mm.hid (Fr.of_below HK.out.bel)
      have B16 := Mm.hid (B1.out.frn FK.out)
      have B26 := Mm.hid (B2.out.frn FK.out)
      have WB6 := Mm.hid (WB.out.frn FK.out)
      have AP := Mm.hid (rings_apin B16.out.fam B26.out.fam GBD.out F23.out.size WB6.out.fam WBD.out RL.out HK.out.a HK.out.b)
      have LE : Hid (∀ zs ∈ qd (gl (ringsL ps)) (gl (ringsL ps)) [] k, zs.length ≤ 8796093022195) := by
        intro zs hz
        obtain ⟨i, hi⟩ := List.getElem?_of_mem hz
        obtain ⟨j, r, _, hj, hr⟩ := qd_at hi
        have hb : (gl (ringsL ps) j).length ≤ 2 * ps.length := ring_cnt (gl_at (by rw [RL.out]; exact hj))
        have h3 : ps.length = N := HN.out
        have h4 : N ≤ 1048576 := HU.out
        rcases hr with ⟨_, rfl⟩ | ⟨_, rfl⟩ | ⟨_, rfl⟩ | ⟨_, rfl⟩ <;> first | omega | exact Nat.zero_le _
      have F26 := Mm.hid (F25.out.trans FK.out fun _ _ h => h)
      have hc7' := hc7
      clear FK B1 B2 WB HK hlt
      go_wp2_with fail
      refine (apart_true w2.heap.size (k * 4) A7 A8 c7 c8 _ _ _ wr AP.out.1 (by omega) LE.out F26.out.size hc7 hc8).mono ?_
      rintro e w7 ⟨rfl, hf⟩
      have B27 : Hid (Below w2.heap.size w2 w7) := (F26.out.below (fun _ h => h.elim) (Nat.le_refl _)).trans (hf.below (fun g hg => AP.out.2.1 g hg) F26.out.size)
      have O1 := Mm.hid (hf.own B16.out.own fun b hb hs => by
        obtain ⟨v, n, xs, ho, hb'⟩ := AP.out.2.2 b hs
        exact own_own_ne ho B16.out.own (by decide) hb' hb)
      have O2 := Mm.hid (hf.own B26.out.own fun b hb hs => by
        obtain ⟨v, n, xs, ho, hb'⟩ := AP.out.2.2 b hs
        exact own_own_ne ho B26.out.own (by decide) hb' hb)
      have AD : Hid (AddR w2.heap.size k 0 0 ⟨#[111, 110, 101]⟩ ⟨#[116, 119, 111]⟩ (.slice A1 k c1) (.slice A2 k c2) w2 w7) :=
        ⟨_, _, O1.out, own_mono O2.out F23.out.size, fun b hb hb' => by
          have h1 := ABD.out b hb
          have h2 := (own_lt O2.out hb').1
          omega, fun k hk => by omega, fun k hk => by omega, B27.out⟩
      clear hf AP LE B16 B26 WB6 O1 O2 F26 B27
      go_wp2_with fail
      go_loopw [5, 6, 11] (fun v5 v6 iv wr => ∃ (i d1 d2 : Nat) (D1 D2 : Option Addr), i ≤ 9 ∧ v5 = .slice D1 (k + i) d1 ∧ v6 = .slice D2 (k + i) d2 ∧ k + i ≤ d1 ∧ k + i ≤ d2 ∧ iv = .int .i64 (i : Nat) ∧ Hid (AddR w2.heap.size k i i ⟨#[111, 110, 101]⟩ ⟨#[116, 119, 111]⟩ (.slice D1 (k + i) d1) (.slice D2 (k + i) d2) w2 wr)) (fun _ _ iv _ => 9 - (intOf iv).toNat)
      case atStart => exact ⟨0, c1, c2, A1, A2, by omega, rfl, rfl, hc1, hc2, rfl, AD⟩
      case round =>
        obtain ⟨i, d1, d2, D1, D2, hi, rfl, rfl, hd1, hd2, rfl, HI⟩ := hrel
        clear AD
        by_cases hlt : i < 9
        · obtain ⟨xs1, xs2, o1, o2, dd, t1, t2, bb⟩ := HI.out.out
          have HS1 := Mm.hid (one_str ⟨#[111, 110, 101]⟩)
          have HL1 : Hid ((k + i + 1) * 24 ≤ 140737488355328) := by show _ ≤ _; omega
          have X1 := Mm.hid o1
          have X2 := Mm.hid o2
          have XD := Mm.hid dd
          have Y1 := Mm.hid t1
          have Y2 := Mm.hid t2
          have YB := Mm.hid bb
          have Z1 : Hid ((wr.alloc (.cells #[.string ⟨#[111, 110, 101]⟩] 9)).ownsRow w2.heap.size 33 1 (.slice D1 (k + i) d1) (k + i) xs1) := (Fr.alloc (fun _ => False) wr _).own o1 fun _ _ h => h
          have ZB : Hid (Below w2.heap.size w2 (wr.alloc (.cells #[.string ⟨#[111, 110, 101]⟩] 9))) := bb.alloc (Nat.le_trans bb.size (Nat.le_refl _)) _
          have HE1 : Hid (∀ u ∈ (#[Value.slice (some ⟨wr.heap.size, 0, none⟩) 1 1] : Array Value).toList, u.oneCell' = true) := by intro u hu; simp at hu; subst hu; rfl
          have HZ : Hid ((wr.alloc (.cells #[.string ⟨#[111, 110, 101]⟩] 9)).heap.size = wr.heap.size + 1) := by show _ = _; simp
          clear o1 o2 dd t1 t2 bb HI
          go_upto_region 21 with (at_builtin; go_must (refine wp_ape1 w2.heap.size rfl _ _ 49 33 (.slice none 0 0) 1 24 #[.slice (some ⟨wr.heap.size, 0, none⟩) 1 1] rfl Try.underlying49 info33 rfl (by decide) (by decide) (.slice D1 (k + i) d1) (k + i) _ rfl (by rw [HZ.out]; rfl) rfl HE1.out Z1.out ZB.out ZB.out.size HL1.out ?_; intro v1 wa k1 k2 k3 k4; obtain ⟨P1, p1, hv, hp1, _, _⟩ := own_slice k1; subst hv; have NX := Mm.hid (AddR.push X1.out X2.out XD.out Y1.out Y2.out k1 k2 k3 (by rcases k4 with h | ⟨b, h, h', _⟩; exact .inl h; exact .inr ⟨b, h, h'⟩)); clear k1 k2 k3 k4))
          obtain ⟨ys1, ys2, o1, o2, dd, t1, t2, bb⟩ := NX.out.swap.out
          have HT1 := Mm.hid (one_str ⟨#[116, 119, 111]⟩)
          have U1 := Mm.hid o1
          have U2 := Mm.hid o2
          have UD := Mm.hid dd
          have T1 := Mm.hid t1
          have T2 := Mm.hid t2
          have V1 : Hid ((wa.alloc (.cells #[.string ⟨#[116, 119, 111]⟩] 9)).ownsRow w2.heap.size 33 1 (.slice D2 (k + i) d2) (k + i) ys1) := (Fr.alloc (fun _ => False) wa _).own o1 fun _ _ h => h
          have VB : Hid (Below w2.heap.size w2 (wa.alloc (.cells #[.string ⟨#[116, 119, 111]⟩] 9))) := bb.alloc (Nat.le_trans bb.size (Nat.le_refl _)) _
          have HE2 : Hid (∀ u ∈ (#[Value.slice (some ⟨wa.heap.size, 0, none⟩) 1 1] : Array Value).toList, u.oneCell' = true) := by intro u hu; simp at hu; subst hu; rfl
          have HZ2 : Hid ((wa.alloc (.cells #[.string ⟨#[116, 119, 111]⟩] 9)).heap.size = wa.heap.size + 1) := by show _ = _; simp
          clear o1 o2 dd t1 t2 bb NX X1 X2 XD Y1 Y2 YB Z1 ZB HE1 HS1 HZ
          go_wp2_with (at_builtin; go_must (refine wp_ape1 w2.heap.size rfl _ _ 49 33 (.slice none 0 0) 1 24 #[.slice (some ⟨wa.heap.size, 0, none⟩) 1 1] rfl Try.underlying49 info33 rfl (by decide) (by decide) (.slice D2 (k + i) d2) (k + i) _ rfl (by rw [HZ2.out]; rfl) rfl HE2.out V1.out VB.out VB.out.size HL1.out ?_; intro v1 wb k1 k2 k3 k4; obtain ⟨P2, p2, hv, hp2, _, _⟩ := own_slice k1; subst hv; have NY := Mm.hid (AddR.push U1.out U2.out UD.out T1.out T2.out k1 k2 k3 (by rcases k4 with h | ⟨b, h, h', _⟩; exact .inl h; exact .inr ⟨b, h, h'⟩)).swap; clear k1 k2 k3 k4))
          clear U1 U2 UD T1 T2 V1 VB HE2 HZ2 HT1
          have ek : k + i + 1 = k + (i + 1) := by omega
          rw [ek] at NY hp1 hp2
          rw [ek]
          clear ek
          go_roundw
          case rel => exact ⟨i + 1, p1, p2, P1, P2, by omega, rfl, rfl, hp1, hp2, by go_num, NY⟩
          case measure => simp [intOf] <;> omega
        · have hi9 : i = 9 := by omega
          subst hi9
          obtain ⟨xs1, xs2, o1, o2, _, t1, t2, bb⟩ := HI.out.out
          have X1 := Mm.hid (Rd.of_own o1)
          have X2 := Mm.hid (Rd.of_own o2)
          have Y1 := Mm.hid t1
          have Y2 := Mm.hid t2
          have F29 := Mm.hid (Fr.of_below bb)
          clear o1 o2 t1 t2 bb HI hlt hi
          obtain ⟨w9, hw9⟩ : ∃ w9, w9 = wr := ⟨_, rfl⟩
          rw [← hw9] at X1 X2 Y1 Y2 F29
          rw [← hw9]
          clear hw9 wr
          go_wp2_with fail
          go_loopw [12] (fun iv wr => ∃ j : Nat, j ≤ 9 ∧ iv = .int .i64 (j : Nat) ∧ wr = w9) (fun iv _ => 9 - (intOf iv).toNat)
          case atStart => exact ⟨0, by omega, rfl, rfl⟩
          case round =>
            obtain ⟨j, hj, rfl, hwr⟩ := hrel
            rw [hwr]
            clear hwr
            by_cases hlt : j < 9
            · obtain ⟨b1, x1, z1⟩ := Y1.out j hlt
              obtain ⟨b2, x2, z2⟩ := Y2.out j hlt
              obtain ⟨ad1, rfl, _, t1⟩ := X1.out.cell x1
              obtain ⟨ad2, rfl, _, t2⟩ := X2.out.cell x2
              have y1 : w9.cell? ⟨b1, 0, none⟩ = some (.string ⟨#[111, 110, 101]⟩) := z1.cell 0
              have y2 : w9.cell? ⟨b2, 0, none⟩ = some (.string ⟨#[116, 119, 111]⟩) := z2.cell 0
              have hs1 := str_same (⟨#[111, 110, 101]⟩ : ByteArray)
              have hs2 := str_same (⟨#[116, 119, 111]⟩ : ByteArray)
              have hwi : IntKind.i64.wrap ((k : Int) + (j : Int)) = (k : Int) + (j : Int) := IntWalk.i64_in _ (by omega)
              have hbi : (0 : Int) ≤ (k : Int) + (j : Int) ∧ (k : Int) + (j : Int) < (k : Int) + 9 := by omega
              have htn : ((k : Int) + (j : Int)).toNat = k + j := by omega
              clear x1 x2 z1 z2
              go_wp2_with fail
              go_roundw
              case rel => exact ⟨j + 1, by omega, by go_num, trivial⟩
              case measure => simp [intOf] <;> omega
            · have hj9 : j = 9 := by omega
              subst hj9
              clear X1 X2 Y1 Y2 hlt hj
              have M9 := Mm.hid (F29.out.own PM.out.1.row fun _ _ h => h)
              have GE : Hid (w1.heap.size ≤ g ∧ g < w2.heap.size) := ⟨PM.out.2, (own_lt PM.out.1.row rfl).2⟩
              have F09 := Mm.hid ((F1.out.trans F12.out fun _ _ h => h).trans F29.out fun _ _ h => h)
              have W9 := Mm.hid ((WRR.out.fr F12.out fun _ _ _ h => h).fr F29.out fun _ _ _ h => h)
              have S29 := Mm.hid F29.out.size
              have S01 := Mm.hid F1.out.size
              clear PM F12 F29 F1 WRR F23 F34 F45 F25 M3 WBD GBD ABD
              go_wp2_with fail
              refine (rings_any ps _ _ _ _ (mine_rd M9.out HN.out) HN.out HS.out (by have := HU.out; omega)).mono ?_
              rintro e w10 ⟨A3, m3, c3, gv3, rfl, hc3, G3⟩
              obtain rfl : m3 = k := G3.out.1.symm.trans RL.out
              have f910 := Mm.hid (Fr.of_below G3.out.2.2)
              have TR : Hid (RRd w9.heap.size w10.heap.size w10 A3 m3 (ringsL ps)) := RRd.of G3.out.2.1
              have W10 := Mm.hid (W9.out.fr f910.out fun _ _ _ h => h)
              have F010 := Mm.hid (F09.out.trans f910.out fun _ _ h => h)
              have M10 := Mm.hid (f910.out.own M9.out fun _ _ h => h)
              have S910 := Mm.hid f910.out.size
              clear G3 W9 F09 M9 f910
              go_wp2_with fail
              refine (turned_any _ _ _ ps _ (F010.out.rd R.out fun _ _ h => h) HN.out HR.out).mono ?_
              rintro e w11 ⟨vt, rfl, PT⟩
              obtain ⟨At, ct, hvt, hct, hAt, hRT⟩ := own_slice PT.out.row
              subst hvt
              have RT := Mm.hid hRT
              have f1011 := Mm.hid (Fr.of_below PT.out.fr)
              have M11 := Mm.hid (f1011.out.own M10.out fun _ _ h => h)
              have W11 := Mm.hid (W10.out.fr f1011.out fun _ _ _ h => h)
              have TR11 := Mm.hid (TR.out.fr f1011.out fun _ _ _ h => h)
              have F011 := Mm.hid (F010.out.trans f1011.out fun _ _ h => h)
              have HAt : Hid (∀ ad, At = some ad → ¬ ad.block = g) := Mm.hid fun ad ha e => by
                have h1 := (own_lt PT.out.row (hAt ad ha)).1
                have h2 := GE.out.2
                have h3 := S29.out
                have h4 := S910.out
                omega
              have hpl : ps.length = N := HN.out
              rw [hpl] at RT hct
              rw [hpl]
              have HPL := Mm.hid hpl
              have ST : Hid (OverR w1.heap.size g N cm ps w11 0 w11) := ⟨M11.out, Fr.refl _ _⟩
              clear hRT hAt hpl PT M10 W10 TR F010 f1011 M11
              go_wp2_with fail
              go_loopw [15] (fun iv wr => ∃ j : Nat, j ≤ N ∧ iv = .int .i64 (j : Nat) ∧ Hid (OverR w1.heap.size g N cm ps w11 j wr)) (fun iv _ => N - (intOf iv).toNat)
              case atStart => exact ⟨0, Nat.zero_le _, rfl, ST.out⟩
              case round =>
                obtain ⟨j, hj, rfl, HK⟩ := hrel
                clear ST
                by_cases hlt : j < N
                · obtain ⟨q, hq⟩ : ∃ q, (turned ps)[j]? = some q := ⟨_, List.getElem?_eq_getElem (by rw [turned_len, HN.out]; exact hlt)⟩
                  have NX := Mm.hid (HK.out.step hq)
                  obtain ⟨ad, rfl, _, f0, f1⟩ := rd_pr (HK.out.fr.rd RT.out HAt.out) ((turned_len ps).trans HN.out) hq
                  obtain ⟨g', cap', hv, _, _, _, hcell, hfree⟩ := own_blk HK.out.row (by omega)
                  injection hv with e1 _ _
                  injection e1 with e1
                  injection e1 with e1
                  subst e1
                  obtain ⟨u0, hu0⟩ : ∃ u, ((overL ps j).flatMap fPr)[j * 2]? = some u := ⟨_, List.getElem?_eq_getElem (by rw [HK.out.row.1]; omega)⟩
                  obtain ⟨u1, hu1⟩ : ∃ u, ((overL ps j).flatMap fPr)[j * 2 + 1]? = some u := ⟨_, List.getElem?_eq_getElem (by rw [HK.out.row.1]; omega)⟩
                  have f2 := hcell _ _ hu0
                  have f3 := hcell _ _ hu1
                  have f4 := hfree (j * 2)
                  have f5 := hfree (j * 2 + 1)
                  clear hcell hfree hu0 hu1 hq
                  go_wp2_with fail
                  go_roundw
                  case rel => exact ⟨j + 1, by omega, by go_num, NX.out⟩
                  case measure => simp [intOf] <;> omega
                · have hjN : N = j := by omega
                  subst hjN
                  have hov : overL ps N = marked (turned ps) := by
                    unfold overL marked
                    rw [List.take_of_length_le (by rw [turned_len, HN.out]; exact Nat.le_refl _), List.drop_left' HN.out]
                  have M17 := Mm.hid HK.out.row
                  rw [hov] at M17
                  have F17 := Mm.hid HK.out.fr
                  have W12 := Mm.hid (W11.out.fr F17.out fun j _ h e => by have := GE.out.1; omega)
                  have TR12 := Mm.hid (TR11.out.fr F17.out fun j h _ e => by have := GE.out.2; have := S29.out; omega)
                  have RT12 := Mm.hid (F17.out.rd RT.out HAt.out)
                  have F012 : Hid (Fr (fun j => w1.heap.size ≤ j) w wr) := (F011.out.mono fun _ h => h.elim).trans F17.out fun j _ e => by have := GE.out.1; omega
                  clear hov HK F011 W11 TR11 RT HAt F17
                  have HTL : Hid ((turned ps).length = N) := (turned_len ps).trans HN.out
                  go_wp2_with fail
                  refine (rings_any (turned ps) _ _ _ _ (mine_rd M17.out HTL.out) HTL.out (turned_sz HS.out) (by have := HU.out; omega)).mono ?_
                  rintro e w13 ⟨A4, m4, c4, gv4, rfl, hc4, G4⟩
                  have f1213 := Mm.hid (Fr.of_below G4.out.2.2)
                  have L13 : Hid (RRd wr.heap.size w13.heap.size w13 A4 m4 (ringsL (turned ps))) := RRd.of G4.out.2.1
                  have RT13 := Mm.hid (f1213.out.rd RT12.out fun _ _ h => h)
                  have RL4 := Mm.hid G4.out.1
                  go_wp2_with fail
                  refine (rrings_any (turned ps) _ _ _ _ RT13.out HTL.out HU.out).mono ?_
                  rintro e w14 ⟨A5, m5, c5, gv5, rfl, hc5, G5⟩
                  obtain rfl : m5 = m4 := G5.out.1.symm.trans RL4.out
                  have f1314 := Mm.hid (Fr.of_below G5.out.2.2)
                  have f1214 := Mm.hid (f1213.out.trans f1314.out fun _ _ h => h)
                  have N14 : Hid (RRd w13.heap.size w14.heap.size w14 A5 m5 (ringsL (turned ps))) := RRd.of G5.out.2.1
                  have L14 := Mm.hid (L13.out.fr f1314.out fun _ _ _ h => h)
                  have W14 := Mm.hid (W12.out.fr f1214.out fun _ _ _ h => h)
                  have T14 := Mm.hid (TR12.out.fr f1214.out fun _ _ _ h => h)
                  have F014 : Hid (Fr (fun j => w1.heap.size ≤ j) w w14) := F012.out.trans f1214.out fun _ _ h => h.elim
                  have hm5 : m5 ≤ 2097152 := by
                    have h1 := rings_cnt (turned ps)
                    have h2 := RL4.out
                    have h3 : (turned ps).length = N := HTL.out
                    have h4 : N ≤ 1048576 := HU.out
                    omega
                  clear G4 G5 M17 W12 TR12 RT12 F012 f1213 f1314 f1214 L13 RT13
                  go_wp2_with fail
                  go_loopw [18] (fun iv wr => ∃ j : Nat, j ≤ m3 ∧ iv = .int .i64 (j : Nat) ∧ Hid (Fr (fun _ => False) w14 wr)) (fun iv _ => m3 - (intOf iv).toNat)
                  case atStart => exact ⟨0, Nat.zero_le _, rfl, Fr.refl _ _⟩
                  case round =>
                    obtain ⟨j, hj, rfl, HF⟩ := hrel
                    by_cases hlt : j < m3
                    · have hl := gl_at (rs := ringsL ps) (j := j) (by rw [RL.out]; exact hlt)
                      have hl9 : (gl (ringsL ps) j).length ≤ 4611686018427387904 := by
                        have h1 := ring_cnt hl
                        have h3 : ps.length = N := HN.out
                        have h4 : N ≤ 1048576 := HU.out
                        omega
                      generalize gl (ringsL ps) j = l at hl hl9
                      obtain ⟨ad1, Q1, q1, rfl, t1, hq1, r1⟩ := (T14.out.fr HF.out fun _ _ _ h => h).at hlt hl
                      obtain ⟨ad2, Q2, q2, rfl, t2, hq2, r2⟩ := (W14.out.fr HF.out fun _ _ _ h => h).at hlt hl
                      have R1' : Hid (∀ d, Rd (wr.drewN d) Q1 l.length 1 (strs l)) := Mm.hid fun d => Rd.drewN r1
                      have R2' : Hid (∀ d, Rd (wr.drewN d) Q2 l.length 1 (strs l)) := Mm.hid fun d => Rd.drewN r2
                      have NX : Hid (∀ n, Fr (fun _ => False) w14 (wr.drewN n)) := fun n => HF.out.trans (Fr.drewN (fun _ => False) wr n) fun _ _ h => h
                      obtain ⟨L, hL⟩ : ∃ L, l.length = L := ⟨_, rfl⟩
                      rw [hL] at R1' R2' t1 t2 hq1 hq2 hl9
                      clear r1 r2 hl hL
                      go_wp2_with fail
                      go_quiet ((go_at_call 25; exact Calls.quiet_of (same_true _ _ _ _ _ _ _ _ (R1'.out _) (R2'.out _) hq1 hq2 hl9)))
                      clear t1 t2
                      go_wp2
                      go_roundw
                      case rel => exact ⟨j + 1, by omega, by go_num, NX.out _⟩
                      case measure => simp [intOf] <;> omega
                    · have hjm : j = m3 := by omega
                      subst hjm
                      clear hlt
                      go_wp2_with fail
                      go_loopw [20] (fun iv wr => ∃ i : Nat, i ≤ m5 ∧ iv = .int .i64 (i : Nat) ∧ Hid (Fr (fun _ => False) w14 wr)) (fun iv _ => m5 - (intOf iv).toNat)
                      case atStart => exact ⟨0, Nat.zero_le _, rfl, HF⟩
                      case round =>
                        clear HF
                        obtain ⟨i, hi, rfl, HF⟩ := hrel
                        by_cases hlt : i < m5
                        · have hl := gl_at (rs := ringsL (turned ps)) (j := i) (by rw [RL4.out]; exact hlt)
                          have hl9 : (gl (ringsL (turned ps)) i).length ≤ 4611686018427387904 := by
                            have h1 := ring_cnt hl
                            have h3 : (turned ps).length = N := HTL.out
                            have h4 : N ≤ 1048576 := HU.out
                            omega
                          generalize gl (ringsL (turned ps)) i = l at hl hl9
                          obtain ⟨ad1, Q1, q1, rfl, t1, hq1, r1⟩ := (L14.out.fr HF.out fun _ _ _ h => h).at hlt hl
                          obtain ⟨ad2, Q2, q2, rfl, t2, hq2, r2⟩ := (N14.out.fr HF.out fun _ _ _ h => h).at hlt hl
                          have R1' : Hid (∀ d, Rd (wr.drewN d) Q1 l.length 1 (strs l)) := Mm.hid fun d => Rd.drewN r1
                          have R2' : Hid (∀ d, Rd (wr.drewN d) Q2 l.length 1 (strs l)) := Mm.hid fun d => Rd.drewN r2
                          have NX : Hid (∀ n, Fr (fun _ => False) w14 (wr.drewN n)) := fun n => HF.out.trans (Fr.drewN (fun _ => False) wr n) fun _ _ h => h
                          obtain ⟨L, hL⟩ : ∃ L, l.length = L := ⟨_, rfl⟩
                          rw [hL] at R1' R2' t1 t2 hq1 hq2 hl9
                          clear r1 r2 hl hL
                          go_wp2_with fail
                          go_quiet ((go_at_call 25; exact Calls.quiet_of (same_true _ _ _ _ _ _ _ _ (R1'.out _) (R2'.out _) hq1 hq2 hl9)))
                          clear t1 t2
                          go_wp2
                          go_roundw
                          case rel => exact ⟨i + 1, by omega, by go_num, NX.out _⟩
                          case measure => simp [intOf] <;> omega
                        · have him : i = m5 := by omega
                          subst him
                          have FE := Mm.hid ((F014.out.trans HF.out fun _ _ h => h.elim).below (B := w.heap.size) (fun g h => Nat.le_trans S01.out h) (Nat.le_refl _))
                          go_wp2_with fail
                          go_ret
                          exact ⟨rfl, FE.out⟩
end Go.Proofs.Ythjldlgmfplngaa

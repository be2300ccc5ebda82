/- Walk: the document's rings. -/
import Derived.Test.YthjldlgmfplngaaRrg
namespace Go.Mm
open Go.RowKit
theorem RwB.mono {base base' m : Nat} {v : Value} {gv : List Value} {ls : List (List Value)} {w : World} (h : RwB base v m gv ls w) (hb : base' ≤ base) : RwB base' v m gv ls w :=
  ⟨own_mono h.own hb, ⟨h.fam.len, fun i v xs hv hx => own_mono (h.fam.own i v xs hv hx) hb, h.fam.dis, Nat.le_trans hb h.fam.low⟩⟩
end Go.Mm
namespace Go.Proofs.Ythjldlgmfplngaa
open Go.RowKit Go.Mm Go.Maps Go.Reach Go.WideMaps
/-- the rings are told -/
def RrE (ps : List Pr) (w : World) (e : Ending) (w' : World) : Prop := ∃ A m c gv, e = .returned (.slice A m c) ∧ m ≤ c ∧ Hid ((ringsL ps).length = m ∧ RwB w.heap.size (.slice A m c) m gv ((ringsL ps).map strs) w' ∧ Below w.heap.size w w')
set_option maxRecDepth 100000 in
set_option maxHeartbeats 4000000 in
theorem rrings_any (ps : List Pr) (A : Option Addr) (N c : Nat) (w : World) (hr : Rd w A N 2 (ps.flatMap fPr)) (hN : ps.length = N) (hl : N ≤ 1048576) :
    Calls Try.prog 33 #[.slice A N c] w (RrE ps w) := by
  have R := Mm.hid hr
  have HN := Mm.hid hN
  have HR : Hid (N * 32 ≤ 140737488351232) := by show _ ≤ _; omega
  have HC := Mm.hid (cnt_two ps)
  clear hr hN
  go_enter Try.func33, Try.ntmps33
  go_wp2_with fail
  refine (names_any ps A N c w R.out HN.out HR.out).mono ?_
  rintro e w1 ⟨An, n, cn, rfl, hcn, O⟩
  have R1 := Mm.hid (R.out.below O.out.2.2)
  have NR := Mm.hid (rd_row O.out.2.1)
  have NL : Hid (cnt ps = n) := O.out.1
  have B1 := Mm.hid O.out.2.2
  have hn9 : n ≤ 2097152 := by
    have h1 := HC.out
    have h2 := NL.out
    have h3 : ps.length = N := HN.out
    omega
  have NM : Hid (∀ k, k < n → (web (prs ps)).ns[k]? = some (nmo ps k)) := fun k hk => nm_get (by rw [NL.out]; exact hk)
  have TC : Hid (∀ (x y : ByteArray) (W : World), Fr (fun _ => False) w1 W → Calls Try.prog 52 #[.slice A N c, .string x, .string y] W (TgE ps x y W)) := fun x y W hF => together_any ps A N c x y W (hF.rd R1.out fun _ _ h => h) HN.out HR.out
  clear O R HC
  go_wp2_with fail
  go_loopw [4, 5, 6] (fun ov tv iv wr => ∃ (i : Nat) (Ao At : Option Addr) (mo mt co ct : Nat), i ≤ n ∧ mo ≤ i ∧ mt ≤ i * n ∧ mo ≤ co ∧ mt ≤ ct ∧ ov = .slice Ao mo co ∧ tv = .slice At mt ct ∧ iv = .int .i64 (i : Nat) ∧ Hid (∃ gv, RgR w1 (.slice Ao mo co) mo (.slice At mt ct) mt gv (ahd ps i) wr) ∧ Hid (Fr (fun _ => False) w1 wr)) (fun _ _ iv _ => n - (intOf iv).toNat)
  case atStart => exact ⟨0, none, none, 0, 0, 0, 0, Nat.zero_le _, Nat.le_refl _, Nat.zero_le _, Nat.le_refl _, Nat.le_refl _, rfl, rfl, rfl, ⟨[], RgR.start w1⟩, Fr.refl _ _⟩
  case round =>
    obtain ⟨i, Ao, At, mo, mt, co, ct, hi, hmo, hmt, hco, hct, rfl, rfl, rfl, HG, HF⟩ := hrel
    by_cases hlt : i < n
    · obtain ⟨ad, rfl, _, t1⟩ := (HF.out.rd NR.out fun _ _ h => h).cell (strs_get (NM.out i hlt))
      have hmt9 : mt ≤ 4611686018427387904 := by
        have := Nat.mul_le_mul (Nat.le_of_lt (Nat.lt_of_lt_of_le hlt hn9)) hn9
        omega
      obtain ⟨b0, hb0⟩ : ∃ b, isIn (ahd ps i).flatten (nmo ps i) = b := ⟨_, rfl⟩
      have HB0 := Mm.hid hb0
      have HC : Hid (∀ W, Fr (fun _ => False) wr W → Calls Try.prog 51 #[.slice At mt ct, .string (nmo ps i)] W fun e w' => e = .returned (.bool b0) ∧ w' = W) := fun W hW => by
        obtain ⟨gv, hG⟩ := HG.out
        have h := has_any At mt ct (ahd ps i).flatten (nmo ps i) W (rd_row (hW.own hG.told fun _ _ h => h)) hmt9
        rwa [hb0] at h
      have TW : Hid (∀ (x y : ByteArray) (W : World), Fr (fun _ => False) wr W → Calls Try.prog 52 #[.slice A N c, .string x, .string y] W (TgE ps x y W)) := fun x y W hW => TC.out x y W (HF.out.trans hW fun _ _ h => h)
      have F0 := Mm.hid (Fr.refl (fun _ => False) wr)
      clear hb0
      go_upto_region 7 with (fail)
      go_cut [35] from 17 to 35 (fun sv wc => ∃ s : Bool, sv = .bool s ∧ Hid (s = false ↔ nmo ps i ∉ (ahd ps i).flatten ∧ Lead ps (nmo ps i) (nmo ps i)) ∧ Hid (Fr (fun _ => False) wr wc))
      case first =>
        cases b0
        · have hout : Hid (nmo ps i ∉ (ahd ps i).flatten) := fun h => by
            have h1 := isIn_true h
            have h2 := HB0.out
            rw [h1] at h2
            cases h2
          clear HB0
          go_region_held3 (fun w' => w'.cell? (ad.add i) = some (.string (nmo ps i))) (go_keep)
            (first
              | (go_at_call 51; refine (HC.out _ (by with_reducible repeat (first | exact F0.out | apply fx_drewN | apply fx_drew | apply fx_alloc))).mono ?_; rintro e w' ⟨rfl, hw⟩; rw [hw]; clear hw w')
              | (go_at_call 52; refine (TW.out _ _ _ (by with_reducible repeat (first | exact F0.out | apply fx_drewN | apply fx_drew | apply fx_alloc))).mono ?_; rintro e wp ⟨r, rfl, hP⟩; have FP : Hid (Fr (fun _ => False) wr wp) := Mm.hid (Fr.trans (by with_reducible repeat (first | exact F0.out | apply fx_drewN | apply fx_drew | apply fx_alloc)) hP.out.2 fun _ _ h => h); have EP := Mm.hid hP.out.1; have y1 : wp.cell? (ad.add i) = some (.string (nmo ps i)) := FP.out.cell t1 (fun h => h); clear hP))
          go_wp2_with fail
          go_meet
          have fin : (!r) = false ↔ nmo ps i ∉ (ahd ps i).flatten ∧ Lead ps (nmo ps i) (nmo ps i) := by
            rw [Bool.not_eq_false', EP.out]
            exact ⟨fun h => ⟨hout.out, h.1⟩, fun h => ⟨h.2, h.2⟩⟩
          exact ⟨!r, rfl, fin, FP⟩
        · have hin : Hid (nmo ps i ∈ (ahd ps i).flatten) := isIn_iff.1 HB0.out
          clear HB0
          go_quiet ((go_at_call 51; refine Calls.quiet_of_same (HC.out _ (fx_drewN F0.out _))))
          go_wp2_with fail
          go_meet
          have fin : true = false ↔ nmo ps i ∉ (ahd ps i).flatten ∧ Lead ps (nmo ps i) (nmo ps i) := ⟨fun h => Bool.noConfusion h, fun h => absurd hin.out h.1⟩
          exact ⟨true, rfl, fin, fx_drewN F0.out _⟩
      case rest =>
        obtain ⟨s, rfl, HS, FC⟩ := hcut
        rename_i wc
        have FW := Mm.hid (HF.out.trans FC.out fun _ _ h => h)
        have HGc : Hid (∃ gv, RgR w1 (.slice Ao mo co) mo (.slice At mt ct) mt gv (ahd ps i) wc) := by
          obtain ⟨gv, h⟩ := HG.out
          exact ⟨gv, h.frn FC.out⟩
        have TW2 : Hid (∀ (x y : ByteArray) (W : World), Fr (fun _ => False) wc W → Calls Try.prog 52 #[.slice A N c, .string x, .string y] W (TgE ps x y W)) := fun x y W hW => TC.out x y W (FW.out.trans hW fun _ _ h => h)
        have NW := Mm.hid (FW.out.rd NR.out fun _ _ h => h)
        clear HG HF FC HC TW F0 HB0 t1
        cases s
        · have hk := HS.out.1 rfl
          have HO := Mm.hid hk.1
          have HL := Mm.hid hk.2
          clear hk HS
          go_wp2_with fail
          have ST : Hid (NmR wc (.slice none 0 0) 0 (rgw ps i 0) wc) := ⟨rfl, nil_row _ _, Below.refl _ _⟩
          go_loopw [7, 8] (fun rv kv wr => ∃ (k m : Nat) (Ar : Option Addr) (cr : Nat), k ≤ n ∧ m ≤ k ∧ kv = .int .i64 (k : Nat) ∧ rv = .slice Ar m cr ∧ m ≤ cr ∧ Hid (NmR wc (.slice Ar m cr) m (rgw ps i k) wr)) (fun _ kv _ => n - (intOf kv).toNat)
          case atStart => exact ⟨0, 0, none, 0, Nat.zero_le _, Nat.le_refl _, rfl, rfl, Nat.le_refl _, ST⟩
          case round =>
            obtain ⟨k, m, Ar, cr, hk, hm, rfl, rfl, hcr, HQ⟩ := hrel
            clear ST
            by_cases hlt2 : k < n
            · have FQ := Mm.hid (Fr.of_below HQ.out.bel)
              obtain ⟨ad1, e1, _, t1⟩ := (FQ.out.rd NW.out fun _ _ h => h).cell (strs_get (NM.out i hlt))
              injection e1 with e1
              subst e1
              obtain ⟨ad1, e1, _, t2⟩ := (FQ.out.rd NW.out fun _ _ h => h).cell (strs_get (NM.out k hlt2))
              injection e1 with e1
              subst e1
              have F0 := Mm.hid (Fr.refl (fun _ => False) wr)
              have HY : Hid ((Lead ps (nmo ps i) (nmo ps k) ∧ Lead ps (nmo ps k) (nmo ps i)) → rgw ps i (k + 1) = rgw ps i k ++ [nmo ps k]) := rgw_yes (by rw [NL.out]; exact hlt) (by rw [NL.out]; exact hlt2) HL.out
              have HNo : Hid (¬ (Lead ps (nmo ps i) (nmo ps k) ∧ Lead ps (nmo ps k) (nmo ps i)) → rgw ps i (k + 1) = rgw ps i k) := rgw_no (by rw [NL.out]; exact hlt) (by rw [NL.out]; exact hlt2) HL.out
              go_wp2_with fail
              go_region_held3 (fun w' => w'.cell? (ad.add i) = some (.string (nmo ps i)) ∧ w'.cell? (ad.add k) = some (.string (nmo ps k))) (go_keep)
                (first | (go_at_call 52; refine (TW2.out _ _ _ (by with_reducible repeat (first | exact FQ.out | apply fx_drewN | apply fx_drew | apply fx_alloc))).mono ?_; rintro e wp ⟨r, rfl, hP⟩; have FP : Hid (Fr (fun _ => False) wr wp) := Mm.hid (Fr.trans (by with_reducible repeat (first | exact F0.out | apply fx_drewN | apply fx_drew | apply fx_alloc)) hP.out.2 fun _ _ h => h); have EP := Mm.hid hP.out.1; have y1 : wp.cell? (ad.add i) = some (.string (nmo ps i)) := FP.out.cell t1 (fun h => h); have y2 : wp.cell? (ad.add k) = some (.string (nmo ps k)) := FP.out.cell t2 (fun h => h); clear hP))
              have RW := Mm.hid (FP.out.own HQ.out.row fun _ _ h => h)
              have BW := Mm.hid (HQ.out.bel.trans (FP.out.below (fun _ h => h.elim) HQ.out.bel.size))
              have LN := Mm.hid HQ.out.len
              cases r
              · have NX : Hid (NmR wc (.slice Ar m cr) m (rgw ps i (k + 1)) wp) := by
                  show NmR _ _ _ _ _
                  rw [HNo.out (fun h => Bool.noConfusion (EP.out.2 h))]
                  exact ⟨LN.out, RW.out, BW.out⟩
                clear HQ EP HY HNo t1 t2 y1
                go_wp2_with fail
                go_roundw
                case rel => exact ⟨k + 1, m, Ar, cr, by omega, by omega, by go_num, rfl, hcr, NX⟩
                case measure => simp [intOf] <;> omega
              · have HS1 := Mm.hid (one_str (nmo ps k))
                have HY1 := Mm.hid (HY.out (EP.out.1 rfl))
                have HL1 : Hid ((m + 1) * 16 ≤ 140737488355328) := by show _ ≤ _; omega
                clear HQ EP HY HNo t1 t2 y1
                go_wp2_with (at_builtin; go_must (refine wp_ape1 wc.heap.size rfl _ _ 33 9 (.string ByteArray.empty) 1 16 #[.string (nmo ps k)] rfl Try.underlying33 info9 rfl (by decide) (by decide) (.slice Ar m cr) m _ rfl rfl rfl HS1.out RW.out BW.out BW.out.size HL1.out ?_; intro v1 wb k1 k2 k3 k4; obtain ⟨A3, c3, hv, hc3, _, _⟩ := own_slice k1; subst hv; have K1 := Mm.hid k1; have K2 := Mm.hid k2; clear k1 k2 k3 k4))
                have NX : Hid (NmR wc (.slice A3 (m + 1) c3) (m + 1) (rgw ps i (k + 1)) wb) := by
                  show NmR _ _ _ _ _
                  rw [HY1.out]
                  exact ⟨by simp [LN.out], by rw [← strs_snoc]; exact K1.out, K2.out⟩
                go_roundw
                case rel => exact ⟨k + 1, m + 1, A3, c3, by omega, by omega, by go_num, rfl, hc3, NX⟩
                case measure => simp [intOf] <;> omega
            · have hkn : k = n := by omega
              have hkc : Hid (rgw ps i k = rgo ps i) := by
                show _ = _
                rw [hkn, ← NL.out]
              have hnew : Hid (ahd ps (i + 1) = ahd ps i ++ [rgo ps i]) := ahd_new (by rw [NL.out]; exact hlt) HO.out HL.out
              obtain ⟨gv, hG⟩ := HGc.out
              have GG := Mm.hid hG
              have QR := Mm.hid HQ.out.row
              have QB := Mm.hid HQ.out.bel
              have TT := Mm.hid ((Fr.of_below QB.out).own hG.told fun _ _ h => h)
              have OO := Mm.hid ((Fr.of_below QB.out).own hG.rows.own fun _ _ h => h)
              have BB := Mm.hid (hG.bel.trans (QB.out.mono hG.bel.size))
              have RR := Mm.hid (rd_row QR.out)
              have hmt2 : mt + m ≤ (i + 1) * n := by rw [Nat.succ_mul]; omega
              have hmt3 : (i + 1) * n ≤ 2097152 * 2097152 := Nat.mul_le_mul (by omega) hn9
              have HLt : Hid ((mt + m) * 16 ≤ 140737488355328) := by show _ ≤ _; omega
              have HLo : Hid ((mo + 1) * 24 ≤ 140737488355328) := by show _ ≤ _; omega
              have HM2 := Mm.hid hmt2
              have HS1 := Mm.hid (strs_one (rgw ps i k))
              have HS2 : Hid (∀ u ∈ (#[Value.slice Ar m cr] : Array Value).toList, u.oneCell' = true) := by intro u hu; simp at hu; subst hu; rfl
              clear hG hmt3 hmt2 HGc HQ
              subst hkn
              go_upto_region 15 with (at_builtin; go_must (refine wp_ape w1.heap.size rfl _ _ 33 9 (.string ByteArray.empty) 1 16 rfl Try.underlying33 info9 rfl (by decide) (by decide) (.slice At mt ct) mt _ Ar m cr (strs (rgw ps i k)) rfl rfl RR.out HS1.out TT.out BB.out BB.out.size HLt.out ?_; intro v1 wa k1 k2 k3 k4; obtain ⟨A3, c3, hv, hc3, _, _⟩ := own_slice k1; subst hv; have K1 := Mm.hid k1; have K2 := Mm.hid k2; have K3 := Mm.hid k3; have K4 := Mm.hid k4; have OA := Mm.hid ((Fr.grown k3).own OO.out fun b hb e => own_own_ne OO.out TT.out (by decide) hb e); clear k1 k2 k3 k4))
              go_wp2_with (at_builtin; go_must (refine wp_ape1 w1.heap.size rfl _ _ 49 33 (.slice none 0 0) 1 24 #[.slice Ar m cr] rfl Try.underlying49 info33 rfl (by decide) (by decide) (.slice Ao mo co) mo _ rfl rfl rfl HS2.out OA.out K2.out K2.out.size HLo.out ?_; intro v2 wb j1 j2 j3 j4; obtain ⟨A4, c4, hv, hc4, _, _⟩ := own_slice j1; subst hv; have J1 := Mm.hid j1; have J2 := Mm.hid j2; have J3 := Mm.hid j3; clear j1 j2 j3 j4))
              have NX : Hid (∃ gv, RgR w1 (.slice A4 (mo + 1) c4) (mo + 1) (.slice A3 (mt + m) c3) (mt + m) gv (ahd ps (i + 1)) wb) := by
                show ∃ gv, _
                rw [hnew.out, ← hkc.out]
                exact ⟨_, GG.out.push QB.out QR.out K1.out K3.out (by rcases K4.out with h | ⟨b, h, h', _⟩; exact .inl h; exact .inr ⟨b, h, h'⟩) J1.out J3.out J2.out⟩
              have NF : Hid (Fr (fun _ => False) w1 wb) := Fr.of_below J2.out
              go_roundw
              case rel => exact ⟨i + 1, A4, A3, mo + 1, mt + m, c4, c3, by omega, by omega, HM2.out, hc4, hc3, rfl, rfl, by go_num, NX, NF⟩
              case measure => simp [intOf] <;> omega
        · have hsk : Hid (ahd ps (i + 1) = ahd ps i) := by
            refine ahd_skip (by rw [NL.out]; exact hlt) ?_
            by_cases h : nmo ps i ∈ (ahd ps i).flatten
            · exact .inl h
            · exact .inr fun h' => Bool.noConfusion (HS.out.2 ⟨h, h'⟩)
          have NX : Hid (∃ gv, RgR w1 (.slice Ao mo co) mo (.slice At mt ct) mt gv (ahd ps (i + 1)) wc) := by
            show ∃ gv, _
            rw [hsk.out]
            exact HGc.out
          have hmt2 : mt ≤ (i + 1) * n := Nat.le_trans hmt (Nat.mul_le_mul_right _ (by omega))
          clear HS HGc hsk
          go_wp2_with fail
          go_roundw
          case rel => exact ⟨i + 1, Ao, At, mo, mt, co, ct, by omega, by omega, hmt2, hco, hct, rfl, rfl, by go_num, NX, FW⟩
          case measure => simp [intOf] <;> omega
    · have hin : i = n := by omega
      subst hin
      have FIN : Hid (∃ gv, (ringsL ps).length = mo ∧ RwB w.heap.size (.slice Ao mo co) mo gv ((ringsL ps).map strs) wr ∧ Below w.heap.size w wr) := by
        obtain ⟨gv, h⟩ := HG.out
        have he : ahd ps i = ringsL ps := by rw [← NL.out]; exact ahd_end ps
        rw [he] at h
        refine ⟨gv, ?_, h.rows.mono B1.out.size, B1.out.trans (h.bel.mono B1.out.size)⟩
        have h1 := h.rows.fam.len
        have h2 := own_len h.rows.own
        rw [List.length_map] at h1
        omega
      clear HG
      go_wp2_with fail
      go_ret
      obtain ⟨gv, hfin⟩ := FIN.out
      exact ⟨Ao, mo, co, gv, rfl, hco, hfin⟩
end Go.Proofs.Ythjldlgmfplngaa

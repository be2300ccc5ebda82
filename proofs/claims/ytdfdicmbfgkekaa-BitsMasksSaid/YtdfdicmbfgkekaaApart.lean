/- Walk: lists written full and gone on with. -/
import Derived.Test.YtdfdicmbfgkekaaFam2
import Derived.Test.YtdfdicmbfgkekaaSpread
import Derived.Deep.DeepMust
namespace Go.Proofs.Ytdfdicmbfgkekaa
open Go.RowKit Go.Mm Go.Bs
theorem info37 : (Try.prog.info? 37).map (fun i => (i.zero, i.size, i.bytes)) = some (some (.slice none 0 0), 1, 24) := by kernel_rfl
def aM (i : Nat) : Value := .int .i8 (-1 - (i : Int))
def bM (i : Nat) : Value := .int .i8 (50 + (i : Int))
def yes : Nat → Bool := fun _ => true
/-- lists to be written full -/
structure Lists (base m : Nat) (Ag : Option Addr) (gv : List Value) (ls : List (List Value)) (w : World) : Prop where mk ::
  lg : gv.length = m
  ll : ls.length = m
  rg : Rd w Ag m 1 gv
  own : ∀ (i : Nat) (v : Value) (xs : List Value), gv[i]? = some v → ls[i]? = some xs → w.ownsRow base 35 1 v xs.length xs
  dis : Dis gv
  offg : ∀ ad, Ag = some ad → ¬ Sg gv ad.block
  small : ∀ xs ∈ ls, xs.length ≤ 16
theorem Lists.below {base m : Nat} {Ag : Option Addr} {gv : List Value} {ls : List (List Value)} {w : World} (h : Lists base m Ag gv ls w) : ∀ u ∈ gv, ∀ b, u.ownBlock = some b → b < w.heap.size := by
  intro u hu b hb
  obtain ⟨i, hi⟩ := List.getElem?_of_mem hu
  have hlt := (List.getElem?_eq_some_iff.1 hi).1
  obtain ⟨xs, hx⟩ : ∃ xs, ls[i]? = some xs := ⟨_, List.getElem?_eq_getElem (by rw [h.ll, ← h.lg]; exact hlt)⟩
  exact (own_lt (h.own i u xs hi hx) hb).2
theorem Lists.at_g {base m : Nat} {Ag : Option Addr} {gv : List Value} {ls : List (List Value)} {w w1 : World} (h : Lists base m Ag gv ls w) (hf : Fr (Sg gv) w w1) : Rd w1 Ag m 1 gv := hf.rd h.rg h.offg
/-- one of them -/
structure Row1 (base : Nat) (gv : List Value) (ls : List (List Value)) (w : World) (i n : Nat) (A : Option Addr) (c : Nat) (xs : List Value) : Prop where mk ::
  gv : gv[i]? = some (.slice A n c)
  ls : ls[i]? = some xs
  len : xs.length = n
  own : w.ownsRow base 35 1 (.slice A n c) n xs
  hc : n ≤ c
  small : n ≤ 16
theorem Lists.row {base m : Nat} {Ag : Option Addr} {gv : List Value} {ls : List (List Value)} {w : World} (h : Lists base m Ag gv ls w) {i : Nat} (hi : i < m) : ∃ n A c xs, Row1 base gv ls w i n A c xs := by
  obtain ⟨v, hv⟩ : ∃ v, gv[i]? = some v := ⟨_, List.getElem?_eq_getElem (by rw [h.lg]; exact hi)⟩
  obtain ⟨xs, hx⟩ : ∃ xs, ls[i]? = some xs := ⟨_, List.getElem?_eq_getElem (by rw [h.ll]; exact hi)⟩
  have ho := h.own i v xs hv hx
  obtain ⟨A, c, rfl, hc, _, _⟩ := own_slice ho
  exact ⟨xs.length, A, c, xs, hv, hx, rfl, ho, hc, h.small xs (List.mem_of_getElem? hx)⟩
set_option maxRecDepth 100000 in
set_option maxHeartbeats 8000000 in
theorem apart_any (base m : Nat) (Ag : Option Addr) (cg : Nat) (gv : List Value) (ls : List (List Value)) (w : World) (h : Lists base m Ag gv ls w) (hm : m ≤ 64) (hbase : base ≤ w.heap.size) (hcg : m ≤ cg) :
    Calls Try.prog 23 #[.slice Ag m cg] w fun e w' => e = .returned (.bool true) ∧ Fr (Sg gv) w w' := by
  have H := Mm.hid h
  have HB := Mm.hid h.below
  have G1 : Hid (Got yes aM base 35 w 0 gv ls) := Mm.hid (Got.start fun i v xs hv hx => h.own i v xs hv hx)
  clear h
  go_enter Try.func23, Try.ntmps23
  go_wp2_with fail
  go_loopw [3] (fun i wr => ∃ (t : Nat), t ≤ m ∧ i = .int .i64 (t : Nat) ∧ Hid (Got yes aM base 35 wr t gv ls ∧ Fr (Sg gv) w wr)) (fun i _ => m - (intOf i).toNat)
  case atStart => exact ⟨0, Nat.zero_le _, rfl, G1.out, Fr.refl _ _⟩
  case round =>
    obtain ⟨t, ht, rfl, HT⟩ := hrel
    clear G1
    by_cases hlt : t < m
    · obtain ⟨n, A, c, xs, hrow⟩ := H.out.row hlt
      have RW := Mm.hid hrow
      have hc := hrow.hc
      have hsm := hrow.small
      have O1 : Hid (wr.ownsRow base 35 1 (.slice A n c) n xs) := by
        have := HT.out.1 t _ _ hrow.gv hrow.ls
        rw [mkd_self] at this
        rwa [hrow.len] at this
      clear hrow
      obtain ⟨wi, rfl⟩ : ∃ wi : World, wi = wr := ⟨_, rfl⟩
      go_wp2_with fail
      go_loopw [4] (fun i wr => ∃ (k : Nat), k ≤ n ∧ i = .int .i64 (k : Nat) ∧ Hid (wr.ownsRow base 35 1 (.slice A n c) n (List.replicate k (aM t) ++ xs.drop k) ∧ Fr (fun g => (Value.slice A n c).ownBlock = some g) wi wr)) (fun i _ => n - (intOf i).toNat)
      case atStart => exact ⟨0, Nat.zero_le _, rfl, by simpa using O1.out, Fr.refl _ _⟩
      case round =>
        obtain ⟨k, hk, rfl, HK⟩ := hrel
        clear O1
        have FS := Mm.hid (HT.out.2.trans (Fr.sg RW.out.gv HK.out.2) (fun _ _ h => h))
        obtain ⟨adg, rfl, _, f1⟩ := (H.out.at_g FS.out).cell RW.out.gv
        by_cases hlt2 : k < n
        · obtain ⟨g, cap, hv, _, hg1, hg2, hcell, hfree⟩ := own_blk HK.out.1 (by omega)
          injection hv with e1 _ e3
          subst e1
          subst e3
          obtain ⟨u, hu⟩ := fill_get (xs := xs) (a := aM t) (k := k) (by rw [RW.out.len]; exact hlt2)
          have f2 := hcell k u hu
          have f3 := hfree k
          have ON : Hid ((wr.setCell ⟨g, k, none⟩ (aM t)).ownsRow base 35 1 (.slice (some ⟨g, 0, none⟩) n c) n (List.replicate (k + 1) (aM t) ++ xs.drop (k + 1))) := by
            have := own_set HK.out.1 k (aM t)
            rw [fill_set (by rw [RW.out.len]; exact hlt2)] at this
            exact this
          have FN : Hid (Fr (fun g' => (Value.slice (some ⟨g, 0, none⟩) n c).ownBlock = some g') wi (wr.setCell ⟨g, k, none⟩ (aM t))) := HK.out.2.trans (Fr.setCell _ _ _) fun g' _ h => by rw [h]; rfl
          unfold aM at ON FN
          clear hcell hfree hu
          go_wp2
          go_roundw
          case rel => exact ⟨k + 1, by omega, by go_num, ON.out, FN.out⟩
          case measure => simp [intOf] <;> omega
        · have hkn : k = n := by omega
          subst hkn
          have GN : Hid (Got yes aM base 35 wr (t + 1) gv ls) := by
            refine Got.step HT.out.1 H.out.dis RW.out.gv RW.out.ls rfl (by omega) (fun i h1 h2 => by omega) HK.out.2 ?_
            have := HK.out.1
            rw [RW.out.len]
            rw [List.drop_of_length_le (by rw [RW.out.len]; exact Nat.le_refl _), List.append_nil] at this
            exact this
          go_wp2
          go_roundw
          case rel => exact ⟨t + 1, by omega, by go_num, GN.out, FS.out⟩
          case measure => simp [intOf] <;> omega
    · have L1 : Hid (Long yes aM bM 64 base 35 37 w.heap.size wr 0 gv ls (.slice none 0 0) []) := Mm.hid (Long.start HT.out.1 (by rw [H.out.lg]; omega))
      have F1 := Mm.hid HT.out.2
      clear HT
      obtain ⟨wo, rfl⟩ : ∃ wo : World, wo = wr := ⟨_, rfl⟩
      go_wp2_with fail
      clear hlt ht
      go_loopw [5, 6] (fun lv i wr => ∃ (j : Nat) (lvs : List Value), j ≤ m ∧ i = .int .i64 (j : Nat) ∧ Hid (Long yes aM bM 64 base 35 37 w.heap.size wr j gv ls lv lvs ∧ Fr (Sg gv) w wr)) (fun _ i _ => m - (intOf i).toNat)
      case atStart => exact ⟨0, [], Nat.zero_le _, rfl, L1.out, F1.out⟩
      case round =>
        obtain ⟨j, lvs, hj, rfl, HL⟩ := hrel
        clear L1 F1
        by_cases hlt : j < m
        · obtain ⟨n, A, c, xs, hrow⟩ := H.out.row hlt
          have RW := Mm.hid hrow
          have hc := hrow.hc
          have hsm := hrow.small
          clear hrow
          have O1 : Hid (wr.ownsRow base 35 1 (.slice A n c) n (List.replicate n (aM j))) := by
            have := HL.out.1.left j _ _ (Nat.le_refl _) RW.out.gv RW.out.ls
            rw [RW.out.len] at this
            exact this
          obtain ⟨adg, rfl, _, f1⟩ := (H.out.at_g HL.out.2).cell RW.out.gv
          have VB : Hid (∀ g, (Value.slice A n c).ownBlock = some g → g < wr.heap.size) := Mm.hid fun g hg => (own_lt O1.out hg).2
          have hsz : w.heap.size ≤ wr.heap.size := HL.out.2.size
          obtain ⟨wi, rfl⟩ : ∃ wi : World, wi = wr := ⟨_, rfl⟩
          have fin : ∀ (l : Value) (w2 w3 : World) (lv1 : Value), Fr (fun g => (Value.slice A n c).ownBlock = some g) wi w2 → Gone yes aM bM 64 base 35 w.heap.size w2 j (.slice A n c) l xs → w3.ownsRow w.heap.size 37 1 lv1 (j + 1) (lvs ++ [l]) → w2.grownBy w3 u5.ownBlock →
              Long yes aM bM 64 base 35 37 w.heap.size w3 (j + 1) gv ls lv1 (lvs ++ [l]) ∧ Fr (Sg gv) w w3 := fun l w2 w3 lv1 h1 h2 h3 h4 =>
            ⟨Long.step HL.out.1 H.out.dis HB.out (by decide) RW.out.gv RW.out.ls h1 h2 h3 h4, Fr.sg_new (HL.out.2.trans (Fr.sg RW.out.gv h1) (fun _ _ h => h)) h4 fun b hb => (own_lt HL.out.1.own hb).1⟩
          have FIN := Mm.hid fin
          clear fin
          have G0 : Hid (Grow base 35 w.heap.size wi wi (.slice A n c) (.slice A n c) n 0 (aM j) (bM j)) := Mm.hid (Grow.start O1.out)
          go_wp2_with fail
          go_loopw [7, 8] (fun l q wq => ∃ (k : Nat), k ≤ 64 ∧ q = .int .i64 (k : Nat) ∧ Hid (Grow base 35 w.heap.size wi wq (.slice A n c) l n k (aM j) (bM j))) (fun _ q _ => 64 - (intOf q).toNat)
          case atStart => exact ⟨0, by omega, rfl, G0.out⟩
          case round =>
            obtain ⟨q, hq, rfl, HG⟩ := hrel
            clear G0
            have hsz2 : wi.heap.size ≤ wr.heap.size := HG.out.fr.size
            by_cases hq2 : q < 64
            · have hone : ∀ u ∈ (#[Value.int .i8 (50 + (j : Int))] : Array Value).toList, u.oneCell' = true := by simp; rfl
              have HO := Mm.hid hone
              clear hone
              go_wp2_with (at_builtin; go_must (refine wp_ape1 base rfl _ _ 37 35 (.int .i8 0) 1 1 #[.int .i8 (50 + (j : Int))] rfl Try.underlying37 info35 rfl (by decide) (by decide) u7 (n + q) _ rfl rfl rfl HO.out (by exact HG.out.own) (Below.refl _ _) (by omega) (by omega) ?_))
              intro v1 w1 k1 k2 k3 k4
              have FN := Mm.hid (Grow.step HG.out hsz VB.out (by rw [List.append_assoc]; exact k1) k3 k4)
              clear k1 k2 k3 k4
              go_wp2
              go_roundw
              case rel => exact ⟨q + 1, by omega, by go_num, FN.out⟩
              case measure => simp [intOf] <;> omega
            · have hq12 : q = 64 := by omega
              subst hq12
              obtain ⟨A1, c1, hu, _⟩ := own_slice HG.out.own
              subst hu
              have hone : ∀ u ∈ (#[Value.slice A1 (n + 64) c1] : Array Value).toList, u.oneCell' = true := by simp; rfl
              have HO := Mm.hid hone
              have O2 := Mm.hid (Grow.gone (ev := yes) (xs := xs) HG.out RW.out.len rfl)
              clear hone
              go_wp2_with (at_builtin; go_must (refine wp_ape1 w.heap.size rfl _ _ 41 37 (.slice none 0 0) 1 24 #[Value.slice A1 (n + 64) c1] rfl Try.underlying41 info37 rfl (by decide) (by decide) u5 j lvs rfl rfl rfl HO.out (HG.out.fr.own HL.out.1.own ?_) (Below.refl _ _) (by omega) (by omega) ?_))
              · intro b hb hb'
                have h1 := (own_lt HL.out.1.own hb).1
                have h2 := HB.out _ (List.mem_of_getElem? RW.out.gv) b hb'
                omega
              intro v1 w1 k1 k2 k3 k4
              have FN := Mm.hid (FIN.out _ wr w1 v1 HG.out.fr O2.out k1 k3)
              clear k1 k2 k3 k4
              go_wp2
              go_roundw
              case rel => exact ⟨j + 1, _, by omega, by go_num, FN.out⟩
              case measure => simp [intOf] <;> omega
        · have hjm : j = m := by omega
          subst hjm
          obtain ⟨AL, cL, hu9, hcL, _, hRL⟩ := own_slice HL.out.1.own
          subst hu9
          have RL := Mm.hid hRL
          have LL := Mm.hid HL.out.1.len
          clear hRL
          obtain ⟨wz, rfl⟩ : ∃ wz : World, wz = wr := ⟨_, rfl⟩
          go_wp2_with fail
          clear hlt
          go_loop [9] (fun i => ∃ (k : Nat), k ≤ j ∧ i = .int .i64 (k : Nat)) (fun i => j - (intOf i).toNat)
          case atStart => exact ⟨0, Nat.zero_le _, rfl⟩
          case round =>
            obtain ⟨k, hk, rfl⟩ := hrel
            by_cases hlt : k < j
            · obtain ⟨n, A, c, xs, hrow⟩ := H.out.row hlt
              obtain ⟨l, hl⟩ : ∃ l, lvs[k]? = some l := ⟨_, List.getElem?_eq_getElem (by rw [LL.out]; exact hlt)⟩
              have hgo := HL.out.1.gone k _ l _ hrow.gv hl hrow.ls
              obtain ⟨adg, rfl, _, f1⟩ := (H.out.at_g HL.out.2).cell hrow.gv
              have LN := Mm.hid hrow.len
              have hc := hrow.hc
              have hsm := hrow.small
              obtain ⟨V1, O1, _⟩ := hgo.2 rfl
              rw [LN.out] at V1 O1
              obtain ⟨g2, cap2, rfl, hcap2, _, _, hcell2, _⟩ := own_blk O1 (by omega)
              obtain ⟨adL, rfl, _, f3⟩ := RL.out.cell hl
              have HV := Mm.hid V1
              have HC2 := Mm.hid hcell2
              clear hrow hgo hl V1 O1 hcell2
              go_wp2_with fail
              go_loop [11] (fun q => ∃ (i : Nat), i ≤ n + 64 ∧ q = .int .i64 (i : Nat)) (fun q => n + 64 - (intOf q).toNat)
              case atStart => exact ⟨0, by omega, rfl⟩
              case round =>
                obtain ⟨q, hq, rfl⟩ := hrel
                by_cases hq2 : q < n + 64
                · by_cases hqn : q < n
                  · obtain ⟨g, cg', hA, _, _, hcell⟩ := HV.out.2.2 (by omega)
                    injection hA with e1 _ e3
                    subst e1
                    subst e3
                    have f4 : wz.cell? ⟨g, q, none⟩ = some (.int .i8 (-1 - (k : Int))) := hcell q _ (by rw [List.getElem?_replicate, if_pos hqn]; rfl)
                    have f5 : wz.cell? ⟨g2, q, none⟩ = some (.int .i8 (-1 - (k : Int))) := HC2.out q _ (by rw [List.getElem?_append_left (by simpa using hqn), List.getElem?_replicate, if_pos hqn]; rfl)
                    clear hcell
                    go_wp2
                    go_round
                    case rel => exact ⟨q + 1, by omega, by go_num⟩
                    case measure => simp [intOf] <;> omega
                  · have f5 : wz.cell? ⟨g2, q, none⟩ = some (.int .i8 (50 + (k : Int))) := HC2.out q _ (by rw [List.getElem?_append_right (by simp; omega), List.getElem?_replicate, if_pos (by simp; omega)]; rfl)
                    go_wp2
                    go_round
                    case rel => exact ⟨q + 1, by omega, by go_num⟩
                    case measure => simp [intOf] <;> omega
                · go_wp2
                  go_round
                  case rel => exact ⟨k + 1, by omega, by go_num⟩
                  case measure => simp [intOf] <;> omega
            · go_wp2
              go_ret
              exact ⟨rfl, HL.out.2⟩
end Go.Proofs.Ytdfdicmbfgkekaa

/- Walk: lists told, each in memory of its own. -/
import Derived.Test.YtecppnkfnppmoaaSame
import Derived.Test.YtecppnkfnppmoaaFam
namespace Go.Proofs.Ytecppnkfnppmoaa
open Go.RowKit Go.Mm
theorem info3 : (Try.prog.info? 3).map (fun i => (i.zero, i.size, i.bytes)) = some (some (.int .i64 0), 1, 8) := by kernel_rfl
theorem info22 : (Try.prog.info? 22).map (fun i => (i.zero, i.size, i.bytes)) = some (some (.slice none 0 0), 1, 24) := by kernel_rfl
theorem same_true (A1 : Option Addr) (n1 c1 : Nat) (A2 : Option Addr) (n2 c2 : Nat) (xs : List Int) (w : World) (h1 : Rd w A1 n1 1 (iL xs)) (h2 : Rd w A2 n2 1 (iL xs)) (hc1 : n1 ≤ c1) (hc2 : n2 ≤ c2) (hb : n1 ≤ 4611686018427387904) :
    Calls Try.prog 16 #[.slice A1 n1 c1, .slice A2 n2 c2] w (SameEnds true w) := by
  have := same_any A1 n1 c1 A2 n2 c2 xs xs w h1 h2 hc1 hc2 hb
  rwa [show decide (xs = xs) = true from decide_eq_true rfl] at this
def eve (i : Nat) : Bool := i % 2 == 0
def aM (i : Nat) : Value := .int .i64 (-100 - (i : Int))
def bM (i : Nat) : Value := .int .i64 (-1000 - (i : Int))
theorem aM_one (i : Nat) : (aM i).oneCell' = true := rfl
theorem bM_one (i : Nat) : (bM i).oneCell' = true := rfl
theorem own_same {base e n sz : Nat} {w w1 : World} {v : Value} {xs : List Value} (h : w.ownsRow base e sz v n xs) (hk : ∀ g : Nat, w1.heap[g]? = w.heap[g]?) : w1.ownsRow base e sz v n xs := by
  refine ⟨h.1, ?_⟩
  rcases h.2 with h0 | ⟨g, cap, cur, rfl, hg, hh, r⟩
  · exact .inl h0
  · exact .inr ⟨g, cap, cur, rfl, hg, by rw [hk]; exact hh, r⟩
theorem eve_even {t i : Nat} (h : t % 2 = 0) : eve t = true ∧ (t < i → i < t + 2 → eve i = false) := by
  unfold eve
  refine ⟨by rw [h]; rfl, fun h1 h2 => ?_⟩
  have : i % 2 = 1 := by omega
  rw [this]; rfl
/-- the row i: its list, and how it and what it is held against lie there -/
structure Row16 (base : Nat) (gs ws : List Value) (zss : List (List Int)) (w : World) (i n : Nat) (A : Option Addr) (c : Nat) (A' : Option Addr) (c' : Nat) (zs : List Int) : Prop where
  len : zs.length = n
  small : n ≤ 17592186044404
  hc : n ≤ c
  hc' : n ≤ c'
  gv : gs[i]? = some (.slice A n c)
  wv : ws[i]? = some (.slice A' n c')
  ls : (zss.map iL)[i]? = some (iL zs)
  own : w.ownsRow base 3 1 (.slice A n c) n (iL zs)
  want : ∀ w1, Fr (Sg gs) w w1 → Rd w1 A' n 1 (iL zs)
theorem row16 {base m : Nat} {Ag Aw : Option Addr} {gv wv : List Value} {zss : List (List Int)} {w : World} (h : ApIn base 3 m Ag Aw gv wv (zss.map iL) w) (hz : ∀ zs ∈ zss, zs.length ≤ 17592186044404) {i : Nat} (hi : i < m) :
    ∃ n A c A' c' zs, Row16 base gv wv zss w i n A c A' c' zs := by
  obtain ⟨v, u, xs, hv, hu, hx⟩ := h.row hi
  obtain ⟨zs, hzs, rfl⟩ : ∃ zs, zs ∈ zss ∧ iL zs = xs := by
    rw [List.getElem?_map] at hx
    obtain ⟨zs, h1, h2⟩ := Option.map_eq_some_iff.1 hx
    exact ⟨zs, List.mem_of_getElem? h1, h2⟩
  have hown := h.own i v _ hv hx
  obtain ⟨A, c, rfl, hc, _, hR⟩ := own_slice hown
  obtain ⟨A', c', rfl, hc', hR', hS⟩ := h.want i u _ hu hx
  have hlen := iL_len zs
  rw [hlen] at hc hc' hR hR' hv hu hown
  exact ⟨zs.length, A, c, A', c', zs, rfl, hz zs hzs, hc, hc', hv, hu, hx, hown, fun w1 hf => hf.rd hR' hS⟩
set_option maxRecDepth 100000 in
set_option maxHeartbeats 8000000 in
theorem apart_true (base m : Nat) (Ag Aw : Option Addr) (cg cw : Nat) (gv wv : List Value) (zss : List (List Int)) (w : World) (h : ApIn base 3 m Ag Aw gv wv (zss.map iL) w) (hm : m ≤ 1000000) (hz : ∀ zs ∈ zss, zs.length ≤ 17592186044404) (hbase : base ≤ w.heap.size) (hcg : m ≤ cg) (hcw : m ≤ cw) :
    Calls Try.prog 15 #[.slice Ag m cg, .slice Aw m cw] w fun e w' => e = .returned (.bool true) ∧ Fr (Sg gv) w w' := by
  have H := Mm.hid h
  have HZ := Mm.hid hz
  have HB := Mm.hid h.below
  clear h hz
  go_enter Try.func15, Try.ntmps15
  go_wp2_with fail
  go_loopw [5] (fun i wr => ∃ (k : Nat), k ≤ m ∧ i = .int .i64 (k : Nat) ∧ Hid (Fr (Sg gv) w wr ∧ ∀ g : Nat, wr.heap[g]? = w.heap[g]?)) (fun i _ => m - (intOf i).toNat)
  case atStart => exact ⟨0, Nat.zero_le _, rfl, Fr.refl _ _, fun _ => rfl⟩
  case round =>
    obtain ⟨k, hk, rfl, HF⟩ := hrel
    by_cases hlt : k < m
    · obtain ⟨n, A, c, A', c', zs, hrow⟩ := row16 H.out HZ.out hlt
      obtain ⟨adg, rfl, _, f1⟩ := (H.out.at_g HF.out.1).cell hrow.gv
      obtain ⟨adw, rfl, _, f2⟩ := (H.out.at_w HF.out.1).cell hrow.wv
      have RW := Mm.hid hrow
      have hc := hrow.hc
      have hc' := hrow.hc'
      have hsm := hrow.small
      clear hrow
      have R1 : Hid (∀ d, Rd (wr.drewN d) A n 1 (iL zs)) := Mm.hid fun d => Rd.drewN (Rd.of_own (own_same RW.out.own HF.out.2))
      have R2 : Hid (∀ d, Rd (wr.drewN d) A' n 1 (iL zs)) := Mm.hid fun d => Rd.drewN (RW.out.want wr HF.out.1)
      go_wp2_with fail
      go_quiet ((go_at_call 16; exact Calls.quiet_of (same_true _ _ _ _ _ _ _ _ (R1.out _) (R2.out _) hc hc' (by omega))))
      go_wp2
      go_roundw
      case rel => exact ⟨k + 1, by omega, by go_num, HF.out.1.trans (Fr.drewN (Sg gv) _ _) (fun _ _ h => h), fun g => HF.out.2 g⟩
      case measure => simp [intOf] <;> omega
    · have F1 := Mm.hid HF.out.1
      have G1 : Hid (Got eve aM base 3 wr 0 gv (zss.map iL)) := Mm.hid (Got.start fun i v xs hv hx => own_same (H.out.own i v xs hv hx) HF.out.2)
      clear HF
      obtain ⟨wo, rfl⟩ : ∃ wo : World, wo = wr := ⟨_, rfl⟩
      go_wp2_with fail
      clear hlt hk
      go_loopw [7] (fun i wr => ∃ (t : Nat), t ≤ m + 1 ∧ i = .int .i64 (t : Nat) ∧ Hid (t % 2 = 0 ∧ Got eve aM base 3 wr t gv (zss.map iL) ∧ Fr (Sg gv) w wr)) (fun i _ => m + 2 - (intOf i).toNat)
      case atStart => exact ⟨0, Nat.zero_le _, rfl, rfl, G1.out, F1.out⟩
      case round =>
        obtain ⟨t, ht, rfl, HT⟩ := hrel
        clear F1 G1
        by_cases hlt : t < m
        · obtain ⟨n, A, c, A', c', zs, hrow⟩ := row16 H.out HZ.out hlt
          have RW := Mm.hid hrow
          have hc := hrow.hc
          have hsm := hrow.small
          have O1 : Hid (wr.ownsRow base 3 1 (.slice A n c) n (iL zs)) := by
            have := HT.out.2.1 t _ _ hrow.gv hrow.ls
            rw [mkd_self] at this
            rwa [iL_len, hrow.len] at this
          have LN : Hid ((iL zs).length = n) := by show _ = _; rw [iL_len, hrow.len]
          clear hrow
          obtain ⟨wi, rfl⟩ : ∃ wi : World, wi = wr := ⟨_, rfl⟩
          go_wp2_with fail
          go_loopw [8] (fun i wr => ∃ (k : Nat), k ≤ n ∧ i = .int .i64 (k : Nat) ∧ Hid (wr.ownsRow base 3 1 (.slice A n c) n (List.replicate k (aM t) ++ (iL zs).drop k) ∧ Fr (fun g => (Value.slice A n c).ownBlock = some g) wi wr)) (fun i _ => n - (intOf i).toNat)
          case atStart => exact ⟨0, Nat.zero_le _, rfl, by simpa using O1.out, Fr.refl _ _⟩
          case round =>
            obtain ⟨k, hk, rfl, HK⟩ := hrel
            clear O1
            have FS := Mm.hid (HT.out.2.2.trans (Fr.sg RW.out.gv HK.out.2) (fun _ _ h => h))
            obtain ⟨adg, rfl, _, f1⟩ := (H.out.at_g FS.out).cell RW.out.gv
            by_cases hlt2 : k < n
            · obtain ⟨g, cap, hv, _, hg1, hg2, hcell, hfree⟩ := own_blk HK.out.1 (by omega)
              injection hv with e1 _ e3
              subst e1
              subst e3
              obtain ⟨u, hu⟩ := fill_get (xs := iL zs) (a := aM t) (k := k) (by rw [LN.out]; exact hlt2)
              have f2 := hcell k u hu
              have f3 := hfree k
              have ON : Hid ((wr.setCell ⟨g, k, none⟩ (aM t)).ownsRow base 3 1 (.slice (some ⟨g, 0, none⟩) n c) n (List.replicate (k + 1) (aM t) ++ (iL zs).drop (k + 1))) := by
                have := own_set HK.out.1 k (aM t)
                rw [fill_set (by rw [LN.out]; exact hlt2)] at this
                exact this
              have FN : Hid (Fr (fun g' => (Value.slice (some ⟨g, 0, none⟩) n c).ownBlock = some g') wi (wr.setCell ⟨g, k, none⟩ (aM t))) := HK.out.2.trans (Fr.setCell _ _ _) fun g' _ h => by rw [h]; rfl
              unfold aM at ON FN
              clear hcell hfree hu
              go_wp2
              go_roundw
              case rel => exact ⟨k + 1, by omega, by go_num, ON.out, FN.out⟩
              case measure => simp [intOf] <;> omega
            · have hkn : k = n := by omega
              subst hkn
              have GN : Hid (Got eve aM base 3 wr (t + 2) gv (zss.map iL)) := by
                refine Got.step HT.out.2.1 H.out.dis RW.out.gv RW.out.ls (eve_even (i := 0) HT.out.1).1 (by omega) (fun i => (eve_even (i := i) HT.out.1).2) HK.out.2 ?_
                have := HK.out.1
                rw [iL_len, RW.out.len]
                rw [List.drop_of_length_le (by rw [LN.out]; exact Nat.le_refl _), List.append_nil] at this
                exact this
              go_wp2
              go_roundw
              case rel => exact ⟨t + 2, by omega, by go_num, by have := HT.out.1; omega, GN.out, FS.out⟩
              case measure => simp [intOf] <;> omega
        · have L1 : Hid (Long eve aM bM 12 base 3 22 w.heap.size wr 0 gv (zss.map iL) (.slice none 0 0) []) := Mm.hid (Long.start HT.out.2.1 (by rw [H.out.lg]; omega))
          have F1 := Mm.hid HT.out.2.2
          clear HT
          obtain ⟨wo, rfl⟩ : ∃ wo : World, wo = wr := ⟨_, rfl⟩
          go_wp2_with fail
          clear hlt ht
          go_loopw [9, 10] (fun lv i wr => ∃ (j : Nat) (lvs : List Value), j ≤ m ∧ i = .int .i64 (j : Nat) ∧ Hid (Long eve aM bM 12 base 3 22 w.heap.size wr j gv (zss.map iL) lv lvs ∧ Fr (Sg gv) w wr)) (fun _ i _ => m - (intOf i).toNat)
          case atStart => exact ⟨0, [], Nat.zero_le _, rfl, L1.out, F1.out⟩
          case round =>
            obtain ⟨j, lvs, hj, rfl, HL⟩ := hrel
            clear L1 F1
            by_cases hlt : j < m
            · obtain ⟨n, A, c, A', c', zs, hrow⟩ := row16 H.out HZ.out hlt
              have RW := Mm.hid hrow
              have hc := hrow.hc
              have hsm := hrow.small
              have LN : Hid ((iL zs).length = n) := by show _ = _; rw [iL_len, hrow.len]
              clear hrow
              have O1 : Hid (wr.ownsRow base 3 1 (.slice A n c) n (if eve j = true then List.replicate n (aM j) else iL zs)) := by
                have := HL.out.1.left j _ _ (Nat.le_refl _) RW.out.gv RW.out.ls
                rw [LN.out] at this
                exact this
              obtain ⟨adg, rfl, _, f1⟩ := (H.out.at_g HL.out.2).cell RW.out.gv
              have VB : Hid (∀ g, (Value.slice A n c).ownBlock = some g → g < wr.heap.size) := Mm.hid fun g hg => (own_lt O1.out hg).2
              have hsz : w.heap.size ≤ wr.heap.size := HL.out.2.size
              obtain ⟨wi, rfl⟩ : ∃ wi : World, wi = wr := ⟨_, rfl⟩
              have fin : ∀ (l : Value) (w2 w3 : World) (lv1 : Value), Fr (fun g => (Value.slice A n c).ownBlock = some g) wi w2 → Gone eve aM bM 12 base 3 w.heap.size w2 j (.slice A n c) l (iL zs) → w3.ownsRow w.heap.size 22 1 lv1 (j + 1) (lvs ++ [l]) → w2.grownBy w3 u9.ownBlock →
                  Long eve aM bM 12 base 3 22 w.heap.size w3 (j + 1) gv (zss.map iL) lv1 (lvs ++ [l]) ∧ Fr (Sg gv) w w3 := fun l w2 w3 lv1 h1 h2 h3 h4 =>
                ⟨Long.step HL.out.1 H.out.dis HB.out (by decide) RW.out.gv RW.out.ls h1 h2 h3 h4, Fr.sg_new (HL.out.2.trans (Fr.sg RW.out.gv h1) (fun _ _ h => h)) h4 fun b hb => (own_lt HL.out.1.own hb).1⟩
              have FIN := Mm.hid fin
              clear fin
              cases he : eve j
              · have E := Mm.hid he
                clear he
                have hpar : ((j : Int) % 2 == 0) = false := by
                  have := E.out
                  unfold eve at this
                  rw [beq_eq_false_iff_ne] at this ⊢
                  omega
                rw [E.out] at O1
                go_wp2_with fail
                go_loopw [11, 12] (fun l q wr => l = .slice A n c ∧ q = .int .i64 0 ∧ wr = wi) (fun _ _ _ => 0)
                case atStart => exact ⟨rfl, rfl, rfl⟩
                case round =>
                  obtain ⟨rfl, rfl, rfl⟩ := hrel
                  have hone : ∀ u ∈ (#[Value.slice A n c] : Array Value).toList, u.oneCell' = true := by simp; rfl
                  have O2 : Hid (Gone eve aM bM 12 base 3 w.heap.size wr j (.slice A n c) (.slice A n c) (iL zs)) := by
                    have := O1.out
                    rw [if_neg (by decide)] at this
                    exact ⟨fun _ => ⟨rfl, by rw [LN.out]; exact this⟩, fun h => by rw [E.out] at h; cases h⟩
                  have HO := Mm.hid hone
                  clear hone
                  go_wp2_with (at_builtin; go_must (refine wp_ape1 w.heap.size rfl _ _ 24 22 (.slice none 0 0) 1 24 #[.slice A n c] rfl Try.underlying24 info22 rfl (by decide) (by decide) u9 j lvs rfl rfl rfl HO.out (by exact HL.out.1.own) (Below.refl _ _) hsz (by omega) ?_))
                  intro v1 w1 k1 k2 k3 k4
                  have FN := Mm.hid (FIN.out _ wr w1 v1 (Fr.refl _ _) O2.out k1 k3)
                  clear k1 k2 k3 k4
                  go_wp2
                  go_roundw
                  case rel => exact ⟨j + 1, _, by omega, by go_num, FN.out⟩
                  case measure => simp [intOf] <;> omega
              · have E := Mm.hid he
                clear he
                have hpar : ((j : Int) % 2 == 0) = true := by
                  have := E.out
                  unfold eve at this
                  rw [beq_iff_eq] at this ⊢
                  omega
                have G0 : Hid (Grow base 3 w.heap.size wi wi (.slice A n c) (.slice A n c) n 0 (aM j) (bM j)) := by
                  have := O1.out
                  rw [E.out, if_pos rfl] at this
                  exact Grow.start this
                go_wp2_with fail
                go_loopw [11, 12] (fun l q wq => ∃ (k : Nat), k ≤ 12 ∧ q = .int .i64 (k : Nat) ∧ Hid (Grow base 3 w.heap.size wi wq (.slice A n c) l n k (aM j) (bM j))) (fun _ q _ => 12 - (intOf q).toNat)
                case atStart => exact ⟨0, by omega, rfl, G0.out⟩
                case round =>
                  obtain ⟨q, hq, rfl, HG⟩ := hrel
                  clear G0
                  have hsz2 : wi.heap.size ≤ wr.heap.size := HG.out.fr.size
                  by_cases hq2 : q < 12
                  · have hone : ∀ u ∈ (#[Value.int .i64 (-1000 - (j : Int))] : Array Value).toList, u.oneCell' = true := by simp; rfl
                    have HO := Mm.hid hone
                    clear hone
                    go_wp2_with (at_builtin; go_must (refine wp_ape1 base rfl _ _ 22 3 (.int .i64 0) 1 8 #[.int .i64 (-1000 - (j : Int))] rfl Try.underlying22 info3 rfl (by decide) (by decide) u11 (n + q) _ rfl rfl rfl HO.out (by exact HG.out.own) (Below.refl _ _) (by omega) (by omega) ?_))
                    intro v1 w1 k1 k2 k3 k4
                    have FN := Mm.hid (Grow.step HG.out hsz VB.out (by rw [List.append_assoc]; exact k1) k3 k4)
                    clear k1 k2 k3 k4
                    go_wp2
                    go_roundw
                    case rel => exact ⟨q + 1, by omega, by go_num, FN.out⟩
                    case measure => simp [intOf] <;> omega
                  · have hq12 : q = 12 := by omega
                    subst hq12
                    obtain ⟨A1, c1, hu, _⟩ := own_slice HG.out.own
                    subst hu
                    have hone : ∀ u ∈ (#[Value.slice A1 (n + 12) c1] : Array Value).toList, u.oneCell' = true := by simp; rfl
                    have HO := Mm.hid hone
                    have O2 := Mm.hid (Grow.gone (ev := eve) (xs := iL zs) HG.out LN.out E.out)
                    clear hone
                    go_wp2_with (at_builtin; go_must (refine wp_ape1 w.heap.size rfl _ _ 24 22 (.slice none 0 0) 1 24 #[Value.slice A1 (n + 12) c1] rfl Try.underlying24 info22 rfl (by decide) (by decide) u9 j lvs rfl rfl rfl HO.out (HG.out.fr.own HL.out.1.own ?_) (Below.refl _ _) (by omega) (by omega) ?_))
                    · intro b hb hb'
                      have h1 := (own_lt HL.out.1.own hb).1
                      have h2 := HB.out _ (List.mem_of_getElem? RW.out.gv) b hb'
                      omega
                    intro v1 w1 k1 k2 k3 k4
                    have FN := Mm.hid (FIN.out _ wr w1 v1 HG.out.fr O2.out k1 k3)
                    clear k1 k2 k3 k4
                    go_wp2
                    go_roundw
                    case rel => exact ⟨j + 1, _, by omega, by go_num, FN.out⟩
                    case measure => simp [intOf] <;> omega
            · have hjm : j = m := by omega
              subst hjm
              obtain ⟨AL, cL, hu9, hcL, _, hRL⟩ := own_slice HL.out.1.own
              subst hu9
              have RL := Mm.hid hRL
              have LL := Mm.hid HL.out.1.len
              clear hRL
              obtain ⟨wz, rfl⟩ : ∃ wz : World, wz = wr := ⟨_, rfl⟩
              go_wp2_with fail
              clear hlt
              go_loopw [13] (fun i wr => ∃ (k : Nat), k ≤ j ∧ i = .int .i64 (k : Nat) ∧ Hid (Fr (fun _ => False) wz wr)) (fun i _ => j - (intOf i).toNat)
              case atStart => exact ⟨0, Nat.zero_le _, rfl, Fr.refl _ _⟩
              case round =>
                obtain ⟨k, hk, rfl, HF⟩ := hrel
                have FS := Mm.hid (HL.out.2.trans HF.out (T := fun _ => False) (fun _ _ h => h.elim))
                by_cases hlt : k < j
                · obtain ⟨n, A, c, A', c', zs, hrow⟩ := row16 H.out HZ.out hlt
                  obtain ⟨l, hl⟩ : ∃ l, lvs[k]? = some l := ⟨_, List.getElem?_eq_getElem (by rw [LL.out]; exact hlt)⟩
                  have hgo := (HL.out.1.gone k _ l _ hrow.gv hl hrow.ls).fr HF.out (fun _ _ h => h) (fun _ _ _ h => h)
                  have lenx : (iL zs).length = n := by rw [iL_len, hrow.len]
                  have GO := Mm.hid hgo
                  have LN := Mm.hid lenx
                  obtain ⟨adg, rfl, _, f1⟩ := (H.out.at_g FS.out).cell hrow.gv
                  have RW := Mm.hid hrow
                  have hc := hrow.hc
                  have hc' := hrow.hc'
                  have hsm := hrow.small
                  clear hrow hgo lenx
                  cases he : eve k
                  · have hpar : ((k : Int) % 2 == 1) = true := by
                      unfold eve at he
                      rw [beq_eq_false_iff_ne] at he
                      rw [beq_iff_eq]
                      omega
                    obtain ⟨adw, rfl, _, f2⟩ := (H.out.at_w FS.out).cell RW.out.wv
                    have R1 : Hid (∀ d, Rd (wr.drewN d) A n 1 (iL zs)) := Mm.hid fun d => by
                      have := (GO.out.1 he).2
                      rw [LN.out] at this
                      exact Rd.drewN (Rd.of_own this)
                    have R2 : Hid (∀ d, Rd (wr.drewN d) A' n 1 (iL zs)) := Mm.hid fun d => Rd.drewN (RW.out.want wr FS.out)
                    clear he hl
                    go_wp2_with fail
                    go_quiet ((go_at_call 16; exact Calls.quiet_of (same_true _ _ _ _ _ _ _ _ (R1.out _) (R2.out _) hc hc' (by omega))))
                    go_wp2
                    go_roundw
                    case rel => exact ⟨k + 1, by omega, by go_num, HF.out.trans (Fr.drewN (fun _ => False) _ _) (fun _ _ h => h)⟩
                    case measure => simp [intOf] <;> omega
                  · have hpar : ((k : Int) % 2 == 1) = false := by
                      unfold eve at he
                      rw [beq_iff_eq] at he
                      rw [beq_eq_false_iff_ne]
                      omega
                    obtain ⟨V1, O1, _⟩ := GO.out.2 he
                    rw [LN.out] at V1 O1
                    obtain ⟨g2, cap2, rfl, hcap2, _, _, hcell2, _⟩ := own_blk O1 (by omega)
                    obtain ⟨adL, rfl, _, f3⟩ := (HF.out.rd RL.out (fun _ _ h => h)).cell hl
                    have HV := Mm.hid V1
                    have HC2 := Mm.hid hcell2
                    clear he hl V1 O1 hcell2
                    obtain ⟨wi, rfl⟩ : ∃ wi : World, wi = wr := ⟨_, rfl⟩
                    go_wp2_with fail
                    go_loopw [15, 16] (fun q _ wq => ∃ (i : Nat), i ≤ n + 12 ∧ q = .int .i64 (i : Nat) ∧ wq = wi) (fun q _ _ => n + 12 - (intOf q).toNat)
                    case atStart => exact ⟨0, by omega, rfl, rfl⟩
                    case round =>
                      obtain ⟨q, hq, rfl, rfl⟩ := hrel
                      by_cases hq2 : q < n + 12
                      · by_cases hqn : q < n
                        · obtain ⟨g, cg', hA, _, _, hcell⟩ := HV.out.2.2 (by omega)
                          injection hA with e1 _ e3
                          subst e1
                          subst e3
                          have f4 : wr.cell? ⟨g, q, none⟩ = some (.int .i64 (-100 - (k : Int))) := hcell q _ (by rw [List.getElem?_replicate, if_pos hqn]; rfl)
                          have f5 : wr.cell? ⟨g2, q, none⟩ = some (.int .i64 (-100 - (k : Int))) := HC2.out q _ (by rw [List.getElem?_append_left (by simpa using hqn), List.getElem?_replicate, if_pos hqn]; rfl)
                          clear hcell
                          go_wp2
                          go_roundw
                          case rel => exact ⟨q + 1, by omega, by go_num, trivial⟩
                          case measure => simp [intOf] <;> omega
                        · have f5 : wr.cell? ⟨g2, q, none⟩ = some (.int .i64 (-1000 - (k : Int))) := HC2.out q _ (by rw [List.getElem?_append_right (by simp; omega), List.getElem?_replicate, if_pos (by simp; omega)]; rfl)
                          go_wp2
                          go_roundw
                          case rel => exact ⟨q + 1, by omega, by go_num, trivial⟩
                          case measure => simp [intOf] <;> omega
                      · go_wp2
                        go_roundw
                        case rel => exact ⟨k + 1, by omega, by go_num, HF.out⟩
                        case measure => simp [intOf] <;> omega
                · go_wp2
                  go_ret
                  exact ⟨rfl, FS.out⟩
end Go.Proofs.Ytecppnkfnppmoaa

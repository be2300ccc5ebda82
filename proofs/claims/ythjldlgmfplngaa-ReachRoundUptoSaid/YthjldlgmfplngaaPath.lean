/- Walk: Path. -/
import Derived.Test.YthjldlgmfplngaaPnx
import Derived.Test.YthjldlgmfplngaaRow
namespace Go.Proofs.Ythjldlgmfplngaa
open Go.RowKit Go.Mm Go.Maps Go.Reach Go.WideMaps
/-- by whom each was led to -/
def byL (ps : List Pr) (x : ByteArray) : ByteArray → Option ByteArray := why (line ps) x (upL ps x)
/-- the way that is told -/
def pathL (ps : List Pr) (x t : ByteArray) : List ByteArray := wayN (byL ps x) x (upL ps x).length t
theorem upL_rooted (ps : List Pr) (x : ByteArray) : Rooted (byL ps x) x (upL ps x) (rs (line ps) [x] (all ps x).length) :=
  rooted_of (by have := upL_len ps x; rw [← all_len ps x] at this; exact this)
theorem pathL_len (ps : List Pr) (x t : ByteArray) : (pathL ps x t).length ≤ ps.length + 1 :=
  Nat.le_trans ((upL_rooted ps x).way_len (Nat.le_refl _) t) (upL_len ps x)
theorem upL_all (ps : List Pr) (x : ByteArray) : ∀ y ∈ upL ps x, y ∈ all ps x :=
  cl_in (fun y hy => by rw [List.mem_singleton.1 hy]; exact List.mem_cons_self ..) all_line _
def slLen : Value → Nat
  | .slice _ n _ => n
  | _ => 0
/-- on the way back -/
structure PbR (ps : List Pr) (x t : ByteArray) (w4 : World) (y : ByteArray) (v : Value) (m : Nat) (bk : List ByteArray) (wr : World) : Prop where
  len : bk.length = m
  row : wr.ownsRow w4.heap.size 9 1 v m (strs bk)
  fr : Below w4.heap.size w4 wr
  way : pathL ps x t = pathL ps x y ++ bk.reverse
  inn : y ∈ upL ps x ∨ m = 0
  sz : y.size ≤ maxLen
theorem lin_mono {base base' mb n : Nat} {M : ByteArray → Option Value} {ps : List Pr} {w : World} (h : LinB base mb n M ps w) (hb : base' ≤ base) : LinB base' mb n M ps w :=
  ⟨h.map, fun x => own_mono (h.row x) hb, h.apart, Nat.le_trans hb h.ge⟩
theorem run_fO (z : ByteArray) (w : World) : (Instr.field 79 (.agg #[.string z]) 0).run Try.prog w = .ok (.string z) w := by kernel_rfl
set_option maxRecDepth 100000 in
set_option maxHeartbeats 1000000 in
theorem path_row (ps : List Pr) (x t : ByteArray) (A : Option Addr) (N c : Nat) (w : World) (hr : Rd w A N 2 (ps.flatMap fPr)) (hN : ps.length = N) (hs : Szs ps) (hx : x.size ≤ maxLen) (ht : t.size ≤ maxLen) (hl : N * 32 + 16 ≤ 140737488355328) :
    Calls Try.prog 32 #[.slice A N c, .string x, .string t] w (RowE w (pathL ps x t)) := by
  have hmm := @run_makeMap Try.prog
  have hfo := run_fO
  have hmf : ∀ (fn : Fn) (first cap : Array Value) (w : World), (Instr.makeFunc fn first cap).run Try.prog w = .ok (.func fn first cap) w := fun _ _ _ _ => rfl
  obtain ⟨w0, hw0⟩ : ∃ w0, w.alloc (.cells #[.string x] 9) = w0 := ⟨_, rfl⟩
  have F0 : Hid (Fr (fun _ => False) w w0) := by show Fr _ _ _; rw [← hw0]; exact Fr.alloc (fun _ => False) w _
  have B0 : Hid (Blk w0 w.heap.size 9 #[.string x]) := by show Blk _ _ _ _; rw [← hw0]; exact Blk.new w _ _
  have LC := Mm.hid (lines_any ps A N c w0 (F0.out.rd hr fun _ _ h => h) hN hs.a (by omega))
  have HS := Mm.hid hs
  have HX := Mm.hid hx
  have HT := Mm.hid ht
  have HL := Mm.hid hl
  have HN := Mm.hid hN
  have hN9 : N ≤ 4398046511104 := by omega
  clear hr hN hs hx hl ht
  go_enter Try.func32, Try.ntmps32
  go_upto_region 3 with (go_at_call 46; refine LC.out.mono ?_; rintro e w1 ⟨mb, rfl, h1⟩)
  obtain ⟨n, M, hn, LB, F1⟩ := h1.out.out
  obtain ⟨w3, hw3⟩ : ∃ w3, (((w1.alloc (.cells #[.map (some mb)] 74)).alloc (.map #[] 0)).alloc (.cells #[.map (some (w1.heap.size + 1))] 77)).alloc (.cells #[.string x] 9) = w3 := ⟨_, rfl⟩
  have F3 : Hid (Fr (fun _ => False) w1 w3) := by show Fr _ _ _; rw [← hw3]; exact (((Fr.alloc (fun _ => False) w1 _).trans (Fr.alloc (fun _ => False) _ _) fun _ _ h => h).trans (Fr.alloc (fun _ => False) _ _) fun _ _ h => h).trans (Fr.alloc (fun _ => False) _ _) fun _ _ h => h
  have FA := Mm.hid ((F0.out.trans F1 fun _ _ h => h).trans F3.out fun _ _ h => h)
  have PB : Hid (PaB w.heap.size w1.heap.size mb n M ps (w1.heap.size + 1 + 1) (w1.heap.size + 1) w.heap.size x (why (line ps) x []) w3) := by
    have hsz : w.heap.size ≤ w1.heap.size := (F0.out.trans F1 fun _ _ h => h).size
    refine ⟨⟨?_, lin_mono (LB.fr F3.out fun _ h => h.elim) F0.out.size, hsz⟩, ?_, ?_, ⟨[], List.nodup_nil, by simp, by simp, ?_⟩, by omega, fun e => ?_⟩
    · have b := Blk.new w1 #[.map (some mb)] 74
      have f : Fr (fun _ => False) (w1.alloc (.cells #[.map (some mb)] 74)) w3 := by rw [← hw3]; exact ((Fr.alloc (fun _ => False) _ _).trans (Fr.alloc (fun _ => False) _ _) fun _ _ h => h).trans (Fr.alloc (fun _ => False) _ _) fun _ _ h => h
      exact f.blk b fun h => h
    · have b := Blk.new ((w1.alloc (.cells #[.map (some mb)] 74)).alloc (.map #[] 0)) #[.map (some (w1.heap.size + 1))] 77
      rw [World.size_alloc, World.size_alloc] at b
      rw [← hw3]
      exact (Fr.alloc (fun _ => False) _ _).blk b fun h => h
    · exact F3.out.blk (F1.blk B0.out fun h => h) fun h => h
    · have m := MapB.made (P := Try.prog) (kt := 9) (κ := κs) (w1.alloc (.cells #[.map (some mb)] 74))
      rw [World.size_alloc] at m
      have f : Fr (fun _ => False) ((w1.alloc (.cells #[.map (some mb)] 74)).alloc (.map #[] 0)) w3 := by rw [← hw3]; exact (Fr.alloc (fun _ => False) _ _).trans (Fr.alloc (fun _ => False) _ _) fun _ _ h => h
      exact (m.fr f fun h => h).to fun y => by rw [why_nil]; rfl
    · have := LB.map.lt
      omega
  have RX : Hid (Rd w3 (some ⟨w1.heap.size + 1 + 1 + 1, 0, none⟩) 1 1 (strs [x])) := by
    have := Rd.lit (((w1.alloc (.cells #[.map (some mb)] 74)).alloc (.map #[] 0)).alloc (.cells #[.map (some (w1.heap.size + 1))] 77)) #[.string x] 9 1 rfl
    rw [hw3, World.size_alloc, World.size_alloc, World.size_alloc] at this
    exact this
  have LL : Hid (ps.length * 32 + 16 ≤ 140737488355328) := by show _ ≤ _; rw [HN.out]; exact HL.out
  have CC := Mm.hid (close_any 49 #[.pointer (some ⟨w1.heap.size, 0, none⟩), .pointer (some ⟨w1.heap.size + 1 + 1, 0, none⟩), .pointer (some ⟨w.heap.size, 0, none⟩)] (enters_of Try.func49 (by kernel_rfl) rfl) (line ps) (all ps x) (PaI w.heap.size w1.heap.size mb n M ps (w1.heap.size + 1 + 1) (w1.heap.size + 1) w.heap.size x) (pa_inv _ _ _ _ _ _ _ _ _ _) (pa_next _ _ _ _ _ _ _ _ _ _ HX.out HS.out LL.out) (all_sz HS.out HX.out) all_line (fun y _ => by
    have := line_len ps y
    have := HL.out
    have := HN.out
    rw [all_len]; omega) [x] (fun y hy => by rw [List.mem_singleton.1 hy]; exact List.mem_cons_self ..) (by simp) _ 1 1 _ w3 RX.out ⟨rfl, PB.out⟩)
  have GG := Mm.hid (fun k hk => (PB.out.glt k hk).1)
  have hc0 : (((w1.alloc (.cells #[.map (some mb)] 74)).alloc (.map #[] 0)).alloc (.cells #[.map (some (w1.heap.size + 1))] 77)).cell? ⟨w.heap.size, 0, none⟩ = some (.string x) := by
    have f : Fr (fun _ => False) w1 (((w1.alloc (.cells #[.map (some mb)] 74)).alloc (.map #[] 0)).alloc (.cells #[.map (some (w1.heap.size + 1))] 77)) := ((Fr.alloc (fun _ => False) w1 _).trans (Fr.alloc (fun _ => False) _ _) fun _ _ h => h).trans (Fr.alloc (fun _ => False) _ _) fun _ _ h => h
    exact (f.blk (F1.blk B0.out fun h => h) fun h => h).cell 0
  clear LB F1 h1
  go_wp2_with (go_at_call 19; refine CC.out.mono ?_; rintro e w4 ⟨v, L, G, rfl, hw, hr, hi, hG, hv, hf⟩)
  have PB4 : Hid (PaB w.heap.size w1.heap.size mb n M ps (w1.heap.size + 1 + 1) (w1.heap.size + 1) w.heap.size x (byL ps x) w4) := by
    have hL : L = upL ps x := Whole.uniq (f := line ps) (l0 := [x]) (by simpa [puts, put1] using hw) (upL_whole ps x)
    have h := hi.2
    rw [hL] at h
    exact h
  have FW : Hid (Fr (fun _ => False) w w4) := FA.out.trans hf fun k hk hG => by
    have := GG.out k hG
    omega
  have ST : Hid (PbR ps x t w4 t (.slice none 0 0) 0 [] w4) := ⟨rfl, nil_row _ _, Below.refl _ _, by simp, .inr rfl, HT.out⟩
  clear hw hr hi hG hv hf CC GG PB RX F3 FA hc0 hw3 LC B0 F0 hw0
  generalize w1.heap.size + 1 + 1 = rb at *
  go_loopw [9, 10, 11, 12] (fun bv av _ _ wr => ∃ y m A1 c1 bk, bv = .slice A1 m c1 ∧ m ≤ c1 ∧ av = .string y ∧ Hid (PbR ps x t w4 y (.slice A1 m c1) m bk wr)) (fun bv _ _ _ _ => N + 2 - slLen bv)
  case atStart => exact ⟨t, 0, none, 0, [], rfl, Nat.le_refl _, rfl, ST.out⟩
  case round =>
    obtain ⟨y, m, A1, c1, bk, rfl, hc1, rfl, HK⟩ := hrel
    clear ST
    have P := Mm.hid (PB4.out.keep (w' := wr) fun k hk => HK.out.fr.block k (PB4.out.glt k hk).2)
    have d0 : wr.cell? ⟨rb, 0, none⟩ = some (.map (some (w1.heap.size + 1))) := P.out.rbox.cell 0
    have d1 : wr.cell? ⟨w.heap.size, 0, none⟩ = some (.string x) := P.out.fbox.cell 0
    have lk2 := P.out.look_ok HK.out.sz
    have hm9 : m ≤ N + 1 := by
      have h1 := pathL_len ps x t
      rw [HK.out.way, List.length_append, List.length_reverse, HK.out.len, HN.out] at h1
      omega
    by_cases hyx : y = x
    · have hs := str_same x
      have PX : Hid (pathL ps x t = x :: bk.reverse) := by
        show _ = _
        rw [HK.out.way, hyx, show pathL ps x x = [x] from (upL_rooted ps x).first (Nat.le_refl _)]
        rfl
      have RB := Mm.hid (Rd.of_own HK.out.row)
      have LB : Hid (bk.length = m) := HK.out.len
      have FX := Mm.hid (HK.out.fr)
      subst hyx
      clear lk2 HK P
      go_wp2_with fail
      obtain ⟨w5, hw5⟩ : ∃ w5, w5 = wr := ⟨_, rfl⟩
      subst hw5
      have hrl : (bk.reverse).length = m := by rw [List.length_reverse, LB.out]
      have RL := Mm.hid hrl
      have STW : Hid ((w5.alloc (.cells #[.string y] 9)).ownsRow w5.heap.size 9 1 (.slice (some ⟨w5.heap.size, 0, none⟩) 1 1) (0 + 1) (strs (y :: bk.reverse.take 0)) ∧ Below w5.heap.size w5 (w5.alloc (.cells #[.string y] 9))) := ⟨own_lit1 w5 w5.heap.size 9 (.string y) (Nat.le_refl _), (Below.refl _ _).alloc (Nat.le_refl _) _⟩
      clear hrl
      go_loopw [13, 14] (fun wv iv wq => ∃ j A2 c2, j ≤ m ∧ iv = .int .i64 ((m : Int) - 1 - (j : Nat)) ∧ wv = .slice A2 (j + 1) c2 ∧ j + 1 ≤ c2 ∧ Hid (wq.ownsRow w5.heap.size 9 1 (.slice A2 (j + 1) c2) (j + 1) (strs (y :: bk.reverse.take j)) ∧ Below w5.heap.size w5 wq)) (fun _ iv _ => (intOf iv + 1).toNat)
      case atStart => exact ⟨0, _, _, Nat.zero_le _, by go_num, rfl, Nat.le_refl _, STW.out⟩
      case round =>
        obtain ⟨j, A2, c2, hj, rfl, rfl, hc2, HQ⟩ := hrel
        clear STW
        by_cases hjm : j < m
        · obtain ⟨i, hi⟩ : ∃ i, m - 1 - j = i := ⟨_, rfl⟩
          have hii : (m : Int) - 1 - (j : Nat) = (i : Nat) := by omega
          obtain ⟨b, hb⟩ : ∃ b, bk[i]? = some b := ⟨_, List.getElem?_eq_getElem (by rw [LB.out]; omega)⟩
          have hbr : bk.reverse[j]? = some b := by
            rw [List.getElem?_reverse (by rw [LB.out]; omega), LB.out, hi, hb]
          obtain ⟨ad, rfl, _, f1⟩ := ((RB.out.below HQ.out.2).cell (strs_get hb))
          rw [hii]
          have him : i < m := by omega
          have HB := Mm.hid hbr
          have HSo : Hid (∀ u ∈ (#[.string b] : Array Value).toList, u.oneCell' = true) := by intro u hu; simp at hu; subst hu; rfl
          have HLj : Hid ((j + 1 + 1) * 16 ≤ 140737488355328) := by show _ ≤ _; have := HL.out; omega
          have R1 := Mm.hid HQ.out.1
          have T1 := Mm.hid HQ.out.2
          clear hb hbr HQ
          go_wp2_with (at_builtin; go_must (refine wp_ape1 w5.heap.size rfl (.tmp 51) (.tmp 56) 33 9 (.string ByteArray.empty) 1 16 #[.string b] rfl Try.underlying33 info9 rfl (by decide) (by decide) (.slice A2 (j + 1) c2) (j + 1) _ rfl rfl rfl HSo.out R1.out T1.out T1.out.size HLj.out ?_; intro v1 wb k1 k2 k3 k4; obtain ⟨A3, c3, hv, hc3, _, _⟩ := own_slice k1; subst hv; have K1 := Mm.hid k1; have K2 := Mm.hid k2; clear k1 k2 k3 k4))
          have NX : Hid (wb.ownsRow w5.heap.size 9 1 (.slice A3 (j + 1 + 1) c3) (j + 1 + 1) (strs (y :: bk.reverse.take (j + 1))) ∧ Below w5.heap.size w5 wb) := by
            refine ⟨?_, K2.out⟩
            rw [take_snoc' HB.out, ← List.cons_append, ← strs_snoc]
            exact K1.out
          go_roundw
          case rel => exact ⟨j + 1, A3, c3, by omega, by go_num, rfl, hc3, NX.out⟩
          case measure => simp [intOf] <;> omega
        · have hje : j = m := by omega
          subst hje
          have hneg : (j : Int) - 1 - (j : Nat) = -1 := by omega
          rw [hneg]
          have PQ : Hid (pathL ps y t = y :: bk.reverse.take j) := by
            show _ = _
            rw [List.take_of_length_le (by rw [RL.out]; exact Nat.le_refl _)]
            exact PX.out
          go_wp2_with fail
          go_ret
          have BW := Fr.below (B := w.heap.size) FW.out (fun _ h => h.elim) (Nat.le_refl _)
          have B2 := BW.trans (FX.out.mono BW.size)
          refine ⟨A2, j + 1, c2, rfl, hc2, ?_, ?_, B2.trans (HQ.out.2.mono B2.size)⟩
          · rw [PX.out, List.length_cons, RL.out]
          · rw [PQ.out]
            exact own_mono HQ.out.1 B2.size
    · have hs := str_ne hyx
      cases hW : byL ps x y with
      | none =>
        rw [hW] at lk2
        simp only [Option.map_none, Option.getD_none, Option.isSome_none] at lk2
        have PX : Hid (pathL ps x t = []) := by
          show _ = _
          have hn : y ∉ upL ps x := fun h => by
            obtain ⟨z, hz, _⟩ := (upL_rooted ps x).back h hyx
            rw [hW] at hz
            cases hz
          have h0 := HK.out.inn.resolve_left hn
          have h1 := HK.out.len
          rw [h0] at h1
          rw [HK.out.way, List.eq_nil_of_length_eq_zero h1, show pathL ps x y = [] from (upL_rooted ps x).none hn]
          rfl
        have FX := Mm.hid (HK.out.fr)
        clear hW HK P hyx
        go_wp2_with fail
        go_ret
        have BW := Fr.below (B := w.heap.size) FW.out (fun _ h => h.elim) (Nat.le_refl _)
        refine ⟨none, 0, 0, rfl, Nat.le_refl _, by rw [PX.out]; rfl, by rw [PX.out]; exact nil_row _ _, (BW.trans (FX.out.mono BW.size)).alloc ?_ _⟩
        exact Nat.le_trans BW.size FX.out.size
      | some z =>
        have ZI : Hid (z ∈ upL ps x ∧ pathL ps x y = pathL ps x z ++ [y]) := by
          have hn : y ∈ upL ps x := by
            rcases Classical.em (y ∈ upL ps x) with h | h
            · exact h
            · have := (upL_rooted ps x).out y h
              rw [hW] at this
              cases this
          obtain ⟨z', hz, h1, h2⟩ := (upL_rooted ps x).back hn hyx
          rw [hW] at hz
          injection hz with hz
          subst hz
          exact ⟨h1, h2⟩
        have hm8 : m + 1 ≤ N + 1 := by
          have h1 := pathL_len ps x t
          rw [HK.out.way, ZI.out.2, List.length_append, List.length_append, List.length_reverse, HK.out.len, HN.out, List.length_singleton] at h1
          omega
        have HLm : Hid ((m + 1) * 16 ≤ 140737488355328) := by show _ ≤ _; have := HL.out; omega
        have lk4 : ∀ W, Below w4.heap.size w4 W → (Instr.lookup 77 (.map (some (w1.heap.size + 1))) (.string y) false).run Try.prog W = .ok (.agg #[.string z]) W := fun W hW' => by
          have := (PB4.out.keep (w' := W) fun k hk => hW'.block k (PB4.out.glt k hk).2).look HK.out.sz
          rw [this, hW]
          rfl
        have LK4 := Mm.hid lk4
        have DK4 : Hid (∀ W, Below w4.heap.size w4 W → W.cell? ⟨rb, 0, none⟩ = some (.map (some (w1.heap.size + 1)))) := fun W hW' => (PB4.out.keep (w' := W) fun k hk => hW'.block k (PB4.out.glt k hk).2).rbox.cell 0
        rw [hW] at lk2
        simp only [Option.map_some, Option.getD_some, Option.isSome_some, fO] at lk2
        have R1 := Mm.hid ((Fr.alloc (fun _ => False) wr (.cells #[.string z] 79)).own HK.out.row fun _ _ h => h)
        have T1 := Mm.hid (HK.out.fr.alloc (HK.out.fr.size) (.cells #[.string z] 79))
        have SZ1 : Hid (w4.heap.size ≤ (wr.alloc (.cells #[.string z] 79)).heap.size) := T1.out.size
        have HS1 : Hid (∀ u ∈ (#[.string y] : Array Value).toList, u.oneCell' = true) := by intro u hu; simp at hu; subst hu; rfl
        clear hW P lk4
        go_wp2_with (at_builtin; go_must (refine wp_ape1 w4.heap.size rfl (.tmp 38) (.tmp 40) 33 9 (.string ByteArray.empty) 1 16 #[.string y] rfl Try.underlying33 info9 rfl (by decide) (by decide) (.slice A1 m c1) m _ rfl (by rw [World.size_alloc]; rfl) rfl HS1.out R1.out T1.out SZ1.out HLm.out ?_; intro v1 wb k1 k2 k3 k4; have e1 := LK4.out wb k2; have e2 := DK4.out wb k2; obtain ⟨A2, c2, hv, hc2, _, _⟩ := own_slice k1; subst hv; have K1 := Mm.hid k1; have K2 := Mm.hid k2; clear k1 k2 k3 k4))
        have NX : Hid (PbR ps x t w4 z (.slice A2 (m + 1) c2) (m + 1) (bk ++ [y]) wb) := by
          refine ⟨by rw [List.length_append, HK.out.len]; rfl, ?_, K2.out, ?_, .inl ZI.out.1, ?_⟩
          · rw [← strs_snoc]; exact K1.out
          · rw [HK.out.way, ZI.out.2, List.reverse_append, List.append_assoc]; rfl
          · exact all_sz HS.out HX.out z (upL_all ps x z ZI.out.1)
        go_roundw
        case rel => exact ⟨z, m + 1, A2, c2, bk ++ [y], rfl, hc2, rfl, NX.out⟩
        case measure => simp [slLen] <;> omega
end Go.Proofs.Ythjldlgmfplngaa

/- A web that is read; does a name lead to itself?; and what the rings ask of each number. -/
import Derived.Test.YthjldlgmfplngaaWeave
namespace Go.Reach
variable {α : Type} [DecidableEq α]
/-- every number in a web is a name's -/
structure Wb.Ok (W : Wb α) : Prop where
  rng : ∀ k x, x ∈ W.E k → x < W.ns.length
  out : ∀ k, W.ns.length ≤ k.2 → W.E k = []
  nd : W.ns.Nodup
theorem Wb.Ok.add {W : Wb α} (h : W.Ok) (s : α) : (W.add s).Ok := by
  unfold Wb.add
  split
  · exact h
  · rename_i hs
    refine ⟨fun k x hx => ?_, fun k hk => ?_, ?_⟩
    · have := h.rng k x hx
      simp only [List.length_append, List.length_singleton]; omega
    · simp only [List.length_append, List.length_singleton] at hk
      exact h.out k (by omega)
    · have := nodup_put1 (y := s) h.nd
      rwa [put1_out hs] at this
omit [DecidableEq α] in
theorem Wb.Ok.link {W : Wb α} (h : W.Ok) {a b : Nat} (ha : a < W.ns.length) (hb : b < W.ns.length) : (W.link a b).Ok := by
  refine ⟨fun k x hx => ?_, fun k hk => ?_, h.nd⟩
  · show x < W.ns.length
    unfold Wb.link at hx
    simp only at hx
    split at hx
    · rcases List.mem_append.1 hx with hx | hx
      · exact h.rng k x hx
      · rw [List.mem_singleton.1 hx]; exact hb
    · split at hx
      · rcases List.mem_append.1 hx with hx | hx
        · exact h.rng k x hx
        · rw [List.mem_singleton.1 hx]; exact ha
      · exact h.rng k x hx
  · have hk' : W.ns.length ≤ k.2 := hk
    unfold Wb.link
    simp only
    rw [if_neg (fun e => by subst e; simp at hk'; omega), if_neg (fun e => by subst e; simp at hk'; omega)]
    exact h.out k hk'
theorem Wb.Ok.pair {W : Wb α} (h : W.Ok) (p : α × α) : (W.pair p).Ok := by
  unfold Wb.pair
  exact ((h.add p.1).add p.2).link (pos_lt (Wb.sub_add _ _ (Wb.mem_add W p.1))) (pos_lt (Wb.mem_add _ _))
theorem foldl_ok : ∀ (ps : List (α × α)) (W : Wb α), W.Ok → (ps.foldl Wb.pair W).Ok
  | [], _, h => h
  | p :: ps, W, h => foldl_ok ps (W.pair p) (h.pair p)
theorem web_ok (ps : List (α × α)) : (web ps).Ok :=
  foldl_ok ps _ ⟨fun _ _ h => by simp at h, fun _ _ => rfl, List.nodup_nil⟩
end Go.Reach
namespace Go.Proofs.Ythjldlgmfplngaa
open Go.RowKit Go.Mm Go.Maps Go.Reach Go.WideMaps
/-- a side of a web, read -/
structure SideR (w : World) (n : Nat) (v : Value) (sd : Bool) (W : Wb ByteArray) : Prop where mk ::
  out : ∃ A c vs, v = .slice A n c ∧ n ≤ c ∧ Rd w A n 1 vs ∧ ∀ i, i < n → ∃ A' c', vs[i]? = some (.slice A' (W.E (sd, i)).length c') ∧ (W.E (sd, i)).length ≤ c' ∧ Rd w A' (W.E (sd, i)).length 1 (iN (W.E (sd, i)))
structure WebR (w : World) (n : Nat) (v0 v1 v2 : Value) (W : Wb ByteArray) : Prop where
  len : W.ns.length = n
  nm : ∃ A c, v0 = .slice A n c ∧ n ≤ c ∧ Rd w A n 1 (strs W.ns)
  s1 : SideR w n v1 true W
  s2 : SideR w n v2 false W
theorem SideR.fr {w w' : World} {n : Nat} {v : Value} {sd : Bool} {W : Wb ByteArray} (h : SideR w n v sd W) (hs : w.heap.size ≤ w'.heap.size) (hk : ∀ k, k < w.heap.size → w'.heap[k]? = w.heap[k]?) : SideR w' n v sd W := by
  obtain ⟨A, c, vs, e, hc, r, f⟩ := h.out
  refine ⟨A, c, vs, e, hc, r.keep hs fun _ _ hl => hk _ hl, fun i hi => ?_⟩
  obtain ⟨A', c', e', hc', r'⟩ := f i hi
  exact ⟨A', c', e', hc', r'.keep hs fun _ _ hl => hk _ hl⟩
theorem WebR.keep {w w' : World} {n : Nat} {v0 v1 v2 : Value} {W : Wb ByteArray} (h : WebR w n v0 v1 v2 W) (hs : w.heap.size ≤ w'.heap.size) (hk : ∀ k, k < w.heap.size → w'.heap[k]? = w.heap[k]?) : WebR w' n v0 v1 v2 W := by
  obtain ⟨A, c, e, hc, r⟩ := h.nm
  exact ⟨h.len, ⟨A, c, e, hc, r.keep hs fun _ _ hl => hk _ hl⟩, h.s1.fr hs hk, h.s2.fr hs hk⟩
theorem WebR.frn {w w' : World} {n : Nat} {v0 v1 v2 : Value} {W : Wb ByteArray} (h : WebR w n v0 v1 v2 W) (hf : Fr (fun _ => False) w w') : WebR w' n v0 v1 v2 W := h.keep hf.size fun k hl => hf.block k hl fun h => h
theorem WebB.rd {base wb n : Nat} {v0 v1 v2 : Value} {F : Bool × Nat → Value} {W : Wb ByteArray} {w : World} (h : WebB base wb n v0 v1 v2 F W w) : WebR w n v0 v1 v2 W := by
  have key : ∀ sd v, w.ownsRow base 22 1 v n (side F sd n) → SideR w n v sd W := fun sd v ho => by
    obtain ⟨A, c, rfl, hc, _, r⟩ := own_slice ho
    refine ⟨A, c, _, rfl, hc, r, fun i hi => ?_⟩
    obtain ⟨A', c', e, hc', _, r'⟩ := own_slice (h.row (sd, i))
    exact ⟨A', c', by rw [side_get hi, e], hc', r'⟩
  obtain ⟨A, c, rfl, hc, _, r⟩ := own_slice h.nm
  exact ⟨h.len, ⟨A, c, rfl, hc, r⟩, key true _ h.r1, key false _ h.r2⟩
theorem SideR.at {w : World} {n : Nat} {v : Value} {sd : Bool} {W : Wb ByteArray} (h : SideR w n v sd W) {i : Nat} (hi : i < n) : ∃ ad c A' c', v = .slice (some ad) n c ∧ n ≤ c ∧ w.cell? (ad.add i) = some (.slice A' (W.E (sd, i)).length c') ∧ (W.E (sd, i)).length ≤ c' ∧ Rd w A' (W.E (sd, i)).length 1 (iN (W.E (sd, i))) := by
  obtain ⟨A, c, vs, e, hc, r, f⟩ := h.out
  obtain ⟨A', c', e', hc', r'⟩ := f i hi
  obtain ⟨ad, rfl, _, hcell⟩ := r.cell e'
  exact ⟨ad, c, A', c', e, hc, hcell, hc', r'⟩
set_option maxRecDepth 100000 in
set_option maxHeartbeats 1000000 in
theorem loops_any (n : Nat) (v0 v1 v2 : Value) (W : Wb ByteArray) (x : Nat) (w : World) (h : WebR w n v0 v1 v2 W) (hx : x < n) (_hn : n ≤ 4611686018427387904) (hm : (W.E (true, x)).length ≤ 4611686018427387904) :
    Calls Try.prog 56 #[.agg #[v0, v1, v2], .int .i64 (x : Nat)] w fun e w' => e = .returned (.bool (decide (x ∈ W.E (true, x)))) ∧ Hid (Fr (fun _ => False) w w') := by
  obtain ⟨ad, c, A', c', rfl, hc, hcell, hc', hr⟩ := h.s1.at hx
  obtain ⟨m, hm'⟩ : ∃ m, (W.E (true, x)).length = m := ⟨_, rfl⟩
  rw [hm'] at hcell hc' hr hm
  obtain ⟨w1, hw1⟩ : ∃ w1, w.alloc (.cells #[v0, .slice (some ad) n c, v2] 83) = w1 := ⟨_, rfl⟩
  have F1 : Hid (Fr (fun _ => False) w w1) := by show Fr _ _ _; rw [← hw1]; exact Fr.alloc (fun _ => False) w _
  have B1 : Hid (Blk w1 w.heap.size 83 #[v0, .slice (some ad) n c, v2]) := by show Blk _ _ _ _; rw [← hw1]; exact Blk.new w _ _
  have R := Mm.hid (F1.out.rd hr fun _ _ h => h)
  have d1 : w1.cell? ⟨w.heap.size, 1, none⟩ = some (.slice (some ad) n c) := B1.out.cell 1
  have d2 : w1.cell? (ad.add x) = some (.slice A' m c') := F1.out.cell hcell fun h => h
  have HM := Mm.hid hm'
  obtain ⟨A0, c0, rfl, _, _⟩ := h.nm
  obtain ⟨A2, c2, _, rfl, _, _⟩ := h.s2.out
  clear h hcell hr hm'
  go_enter Try.func56, Try.ntmps56
  go_wp2_with fail
  go_loopw [6, 13] (fun _ iv wr => ∃ k : Nat, k ≤ m ∧ iv = .int .i64 (k : Nat) ∧ Hid (x ∉ (W.E (true, x)).take k) ∧ wr = w1) (fun _ iv _ => m - (intOf iv).toNat)
  case atStart => exact ⟨0, Nat.zero_le _, rfl, by simp [Hid], rfl⟩
  case round =>
    obtain ⟨k, hk, rfl, HT, hwr⟩ := hrel
    rw [hwr]
    clear hwr
    by_cases hlt : k < m
    · obtain ⟨y, hy⟩ : ∃ y, (W.E (true, x))[k]? = some y := ⟨_, List.getElem?_eq_getElem (by rw [HM.out]; exact hlt)⟩
      obtain ⟨ad', rfl, _, f1⟩ := R.out.cell (iN_get hy)
      have HY := Mm.hid hy
      clear hy
      by_cases hyx : y = x
      · subst hyx
        have fin : Hid (decide (y ∈ W.E (true, y)) = true) := decide_eq_true (List.mem_of_getElem? HY.out)
        clear HT
        go_wp2_with fail
        go_ret
        rw [fin.out]
        exact ⟨rfl, F1⟩
      · have hne : ((y : Int) == (x : Int)) = false := beq_eq_false_iff_ne.2 (by omega)
        have T := Mm.hid (not_in_snoc HT.out HY.out hyx)
        clear HT hyx
        go_wp2_with fail
        go_roundw
        case rel => exact ⟨k + 1, by omega, by go_num, T, trivial⟩
        case measure => simp [intOf] <;> omega
    · have hkm : k = m := by omega
      subst hkm
      have fin : Hid (decide (x ∈ W.E (true, x)) = false) := by
        have h := HT.out
        rw [List.take_of_length_le (by rw [HM.out]; exact Nat.le_refl _)] at h
        exact decide_eq_false h
      go_wp2_with fail
      go_ret
      rw [fin.out]
      exact ⟨rfl, F1⟩
/-- nothing that stood there is touched (numbers) -/
def KIi (wA : World) (_ : List Int) (G : Nat → Prop) (w : World) : Prop := G = (fun k => k < wA.heap.size) ∧ wA.heap.size ≤ w.heap.size ∧ ∀ k, k < wA.heap.size → w.heap[k]? = wA.heap[k]?
theorem kii_inv (wA : World) : Invi (KIi wA) :=
  ⟨fun _ _ _ _ ⟨e, h1, h2⟩ hs hk => ⟨e, Nat.le_trans h1 hs, fun k hl => (hk k (by rw [e]; exact hl)).trans (h2 k hl)⟩, fun _ _ _ k ⟨e, h1, _⟩ hk => by rw [e] at hk; exact Nat.lt_of_lt_of_le hk h1⟩
theorem kii_fr {wA w' : World} {d : List Int} {G G0 : Nat → Prop} (h : KIi wA d G w') (hf : Fr G0 wA w') : Fr (fun _ => False) wA w' :=
  ⟨hf.os, hf.tape, hf.output, hf.size, fun k hk _ => h.2.2 k hk⟩
/-- those that lead to a number and stand in no part yet -/
def freeB (W : Wb ByteArray) (part : List Nat) (x : Nat) : List Nat := (W.E (false, x)).filter fun y => decide (part[y]? = some 0)
def freeF (W : Wb ByteArray) (part : List Nat) (x : Int) : List Int := (freeB W part x.toNat).map Int.ofNat
theorem iN_iL (l : List Nat) : iN l = iL (l.map Int.ofNat) := by simp [iN, iL]
theorem free_take {l : List Nat} {part : List Nat} {k y : Nat} (hy : l[k]? = some y) : ((l.take (k + 1)).filter fun y => decide (part[y]? = some 0)) = if part[y]? = some 0 then ((l.take k).filter fun y => decide (part[y]? = some 0)) ++ [y] else (l.take k).filter fun y => decide (part[y]? = some 0) := by
  rw [take_snoc' hy, List.filter_append]
  by_cases h : part[y]? = some 0 <;> simp [h]
set_option maxRecDepth 100000 in
set_option maxHeartbeats 1000000 in
theorem rn_next (wA : World) (n : Nat) (v0 v1 v2 : Value) (W : Wb ByteArray) (part : List Nat) (xb pb : Nat) (Ap : Option Addr) (cp : Nat) (hW : WebR wA n v0 v1 v2 W) (hok : W.Ok) (hbx : Blk wA xb 83 #[v0, v1, v2]) (hbp : Blk wA pb 22 #[.slice Ap n cp]) (hp : Rd wA Ap n 1 (iN part)) (hl : ∀ k, (W.E k).length ≤ 1099511627776) (_hn : n ≤ 1099511627776) (U : List Int) (hU : ∀ x ∈ U, 0 ≤ x ∧ x < (n : Int)) :
    NextAti 55 #[.pointer (some ⟨xb, 0, none⟩), .pointer (some ⟨pb, 0, none⟩)] (freeF W part) (KIi wA) U := by
  intro d G w x0 hI hx0 _ _
  obtain ⟨h0, h1⟩ := hU x0 hx0
  obtain ⟨x, rfl⟩ : ∃ x : Nat, x0 = (x : Nat) := ⟨x0.toNat, by omega⟩
  have hxn : x < n := by omega
  have HI := Mm.hid hI
  have WR := hW.keep hI.2.1 hI.2.2
  have BX := Mm.hid (hbx.keep (hI.2.2 _ hbx.lt))
  have BP := Mm.hid (hbp.keep (hI.2.2 _ hbp.lt))
  have RP := Mm.hid (hp.keep hI.2.1 fun _ _ hl => hI.2.2 _ hl)
  obtain ⟨ad, c, A', c', e2, hc, hcell, hc', hr⟩ := WR.s2.at hxn
  subst e2
  obtain ⟨m, hm'⟩ : ∃ m, (W.E (false, x)).length = m := ⟨_, rfl⟩
  rw [hm'] at hcell hc' hr
  have hm9 : m ≤ 1099511627776 := by rw [← hm']; exact hl _
  have R := Mm.hid hr
  have HM := Mm.hid hm'
  have hpl : part.length = n := by have := hp.1; rw [iN_len] at this; omega
  have HRG : Hid (∀ y ∈ W.E (false, x), y < n) := fun y hy => by have := hok.rng _ y hy; rwa [hW.len] at this
  have HPL := Mm.hid hpl
  have b0 : w.cell? ⟨xb, 2, none⟩ = some (.slice (some ad) n c) := BX.out.cell 2
  have p0 : w.cell? ⟨pb, 0, none⟩ = some (.slice Ap n cp) := BP.out.cell 0
  clear hW hok hbx hbp hp hl hU hx0 h0 h1 WR hr hm' hI hpl
  go_enter Try.func55, Try.ntmps55
  go_wp2_with fail
  have ST : Hid (w.ownsRow w.heap.size 3 1 (.slice none 0 0) 0 (iN (((W.E (false, x)).take 0).filter fun y => decide (part[y]? = some 0))) ∧ Below w.heap.size w w) := ⟨⟨rfl, .inl ⟨rfl, rfl⟩⟩, Below.refl _ _⟩
  go_loopw [5, 7, 14] (fun lv _ iv wr => ∃ k r A1 c1, k ≤ m ∧ r ≤ k ∧ iv = .int .i64 (k : Nat) ∧ lv = .slice A1 r c1 ∧ r ≤ c1 ∧ (((W.E (false, x)).take k).filter fun y => decide (part[y]? = some 0)).length = r ∧ Hid (wr.ownsRow w.heap.size 3 1 (.slice A1 r c1) r (iN (((W.E (false, x)).take k).filter fun y => decide (part[y]? = some 0))) ∧ Below w.heap.size w wr)) (fun _ _ iv _ => m - (intOf iv).toNat)
  case atStart => exact ⟨0, 0, none, 0, Nat.zero_le _, Nat.le_refl _, rfl, rfl, Nat.le_refl _, rfl, ST.out⟩
  case round =>
    obtain ⟨k, r, A1, c1, hk, hrk, rfl, rfl, hc1, hlr, HQ⟩ := hrel
    clear ST
    have FQ := Mm.hid (Fr.of_below HQ.out.2)
    by_cases hlt : k < m
    · obtain ⟨y, hy⟩ : ∃ y, (W.E (false, x))[k]? = some y := ⟨_, List.getElem?_eq_getElem (by rw [HM.out]; exact hlt)⟩
      obtain ⟨ad', rfl, _, f1⟩ := (FQ.out.rd R.out fun _ _ h => h).cell (iN_get hy)
      have hyn := HRG.out y (List.mem_of_getElem? hy)
      obtain ⟨q, hq⟩ : ∃ q, part[y]? = some q := ⟨_, List.getElem?_eq_getElem (by rw [HPL.out]; exact hyn)⟩
      obtain ⟨adp, rfl, _, f2⟩ := (FQ.out.rd RP.out fun _ _ h => h).cell (iN_get hq)
      have p1 : wr.cell? ⟨pb, 0, none⟩ = some (.slice (some adp) n cp) := (FQ.out.blk BP.out fun h => h).cell 0
      have FT := Mm.hid (free_take (part := part) hy)
      have HQQ := Mm.hid hq
      clear hy hq
      by_cases hq0 : q = 0
      · subst hq0
        have LT : Hid (((W.E (false, x)).take (k + 1)).filter (fun y => decide (part[y]? = some 0)) = (((W.E (false, x)).take k).filter fun y => decide (part[y]? = some 0)) ++ [y]) := by
          show _ = _; rw [FT.out, if_pos HQQ.out]
        have HL1 : Hid ((r + 1) * 8 ≤ 140737488355328) := by show _ ≤ _; omega
        have HS1 : Hid (∀ u ∈ (#[.int .i64 (y : Nat)] : Array Value).toList, u.oneCell' = true) := by intro u hu; simp at hu; subst hu; rfl
        have R1 := Mm.hid HQ.out.1
        have T1 := Mm.hid HQ.out.2
        clear FT HQQ HQ FQ
        go_wp2_with (at_builtin; go_must (refine wp_ape1 w.heap.size rfl (.tmp 23) (.tmp 25) 22 3 (.int .i64 0) 1 8 #[.int .i64 (y : Nat)] rfl Try.underlying22 info3 rfl (by decide) (by decide) (.slice A1 r c1) r _ rfl rfl rfl HS1.out R1.out T1.out T1.out.size HL1.out ?_; intro v1 wb k1 k2 k3 k4; obtain ⟨A2, c2, hv, hc2, _, _⟩ := own_slice k1; subst hv; have K1 := Mm.hid k1; have K2 := Mm.hid k2; clear k1 k2 k3 k4))
        have NX : Hid ((((W.E (false, x)).take (k + 1)).filter fun y => decide (part[y]? = some 0)).length = r + 1 ∧ wb.ownsRow w.heap.size 3 1 (.slice A2 (r + 1) c2) (r + 1) (iN (((W.E (false, x)).take (k + 1)).filter fun y => decide (part[y]? = some 0))) ∧ Below w.heap.size w wb) := by
          show _ ∧ _ ∧ _
          rw [LT.out, ← iN_snoc]
          exact ⟨by simp [hlr], K1.out, K2.out⟩
        go_roundw
        case rel => exact ⟨k + 1, r + 1, A2, c2, by omega, by omega, by go_num, rfl, hc2, NX.out.1, NX.out.2⟩
        case measure => simp [intOf] <;> omega
      · have hne : ((q : Int) == 0) = false := beq_eq_false_iff_ne.2 (by omega)
        have NX : Hid ((((W.E (false, x)).take (k + 1)).filter fun y => decide (part[y]? = some 0)).length = r ∧ wr.ownsRow w.heap.size 3 1 (.slice A1 r c1) r (iN (((W.E (false, x)).take (k + 1)).filter fun y => decide (part[y]? = some 0))) ∧ Below w.heap.size w wr) := by
          show _ ∧ _ ∧ _
          rw [FT.out, if_neg (by rw [HQQ.out]; simp; exact hq0)]
          exact ⟨hlr, HQ.out⟩
        clear FT HQQ HQ FQ hq0
        go_wp2_with fail
        go_roundw
        case rel => exact ⟨k + 1, r, A1, c1, by omega, by omega, by go_num, rfl, hc1, NX.out.1, NX.out.2⟩
        case measure => simp [intOf] <;> omega
    · have hkm : k = m := by omega
      subst hkm
      have HQ2 := HQ.out
      rw [List.take_of_length_le (by rw [HM.out]; exact Nat.le_refl _)] at HQ2
      have HQH := Mm.hid HQ2
      have EF : Hid (iL (freeF W part (x : Nat)) = iN ((W.E (false, x)).filter fun y => decide (part[y]? = some 0))) := by
        show _ = _
        rw [iN_iL]
        simp [freeF, freeB]
      clear HQ HQ2 FQ
      go_wp2_with fail
      go_ret
      have I0 := HI.out
      refine ⟨A1, r, c1, G, rfl, hc1, by rw [EF.out]; exact Rd.of_own HQH.out.1, ⟨I0.1, Nat.le_trans I0.2.1 HQH.out.2.size, fun j hj => (HQH.out.2.block j (Nat.lt_of_lt_of_le hj I0.2.1)).trans (I0.2.2 j hj)⟩, fun j hj => .inl hj, fun hn ad ha => ?_, (Fr.of_below HQH.out.2).mono fun _ h => h.elim⟩
      have hb := own_lt HQH.out.1 (b := ad.block) (by
        obtain ⟨A', c', he, _, hA, _⟩ := own_slice HQH.out.1
        injection he with he1 he2 he3
        subst he1 he3
        exact hA ad ha)
      exact ⟨hb.2, .inr hb.1⟩
end Go.Proofs.Ythjldlgmfplngaa

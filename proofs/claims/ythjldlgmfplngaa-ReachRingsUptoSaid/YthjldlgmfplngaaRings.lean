/- Walk: the rings. -/
import Derived.Test.YthjldlgmfplngaaParts
namespace Go.Proofs.Ythjldlgmfplngaa
open Go.RowKit Go.Mm Go.Maps Go.Reach Go.WideMaps
/-- the parts under way, in memory -/
structure PtM (base xb pb gp n : Nat) (v0 v1 v2 : Value) (Ao : Option Addr) (mo co : Nat) (ord : List Nat) (As : Option Addr) (ms cs : Nat) (st : Pt) (w0 w : World) : Prop where
  box : Blk w xb 83 #[v0, v1, v2]
  pbox : Blk w pb 22 #[.slice (some ⟨gp, 0, none⟩) n n]
  part : Blk w gp 3 (iN st.part).toArray
  ord : w.ownsRow base 3 1 (.slice Ao mo co) mo (iN ord)
  size : w.ownsRow base 3 1 (.slice As ms cs) ms (iN st.size)
  on : (Value.slice Ao mo co).ownBlock ≠ some gp
  sn : (Value.slice As ms cs).ownBlock ≠ some gp
  os : ∀ k, (Value.slice Ao mo co).ownBlock = some k → (Value.slice As ms cs).ownBlock ≠ some k
  ge : base ≤ gp
  fr : Below base w0 w
section
variable {base xb pb gp n mo co ms cs : Nat} {v0 v1 v2 : Value} {Ao As : Option Addr} {ord : List Nat} {st : Pt} {w0 w w' : World}
theorem PtM.frn (h : PtM base xb pb gp n v0 v1 v2 Ao mo co ord As ms cs st w0 w) (hf : Fr (fun _ => False) w w') : PtM base xb pb gp n v0 v1 v2 Ao mo co ord As ms cs st w0 w' :=
  ⟨hf.blk h.box fun h => h, hf.blk h.pbox fun h => h, hf.blk h.part fun h => h, hf.own h.ord fun _ _ h => h, hf.own h.size fun _ _ h => h, h.on, h.sn, h.os, h.ge, h.fr.trans (hf.below (fun _ h => h.elim) (by have := h.part.lt; have := h.ge; omega))⟩
theorem PtM.cell (h : PtM base xb pb gp n v0 v1 v2 Ao mo co ord As ms cs st w0 w) {x b : Nat} (hb : st.part[x]? = some b) : w.cell? ⟨gp, x, none⟩ = some (.int .i64 (b : Nat)) := by
  rw [h.part.cell]; simp [iN, hb]
theorem PtM.set (h : PtM base xb pb gp n v0 v1 v2 Ao mo co ord As ms cs st w0 w) (x v : Nat) : PtM base xb pb gp n v0 v1 v2 Ao mo co ord As ms cs { st with part := st.part.set x v } w0 (w.setCell ⟨gp, x, none⟩ (.int .i64 (v : Nat))) := by
  have hf := Fr.setCell w ⟨gp, x, none⟩ (.int .i64 (v : Nat))
  refine ⟨hf.blk h.box fun (e : xb = gp) => blk_ne h.box h.part (by decide) e, hf.blk h.pbox fun (e : pb = gp) => blk_ne h.pbox h.part (by decide) e, ?_, hf.own h.ord fun b hb (e : b = gp) => h.on (e ▸ hb), hf.own h.size fun b hb (e : b = gp) => h.sn (e ▸ hb), h.on, h.sn, h.os, h.ge, h.fr.trans (hf.below (fun k (e : k = gp) => by rw [e]; exact h.ge) (by have := h.part.lt; have := h.ge; omega))⟩
  have := h.part.set x (.int .i64 (v : Nat))
  rw [show (iN st.part).toArray.setIfInBounds x (.int .i64 (v : Nat)) = (iN (st.part.set x v)).toArray from by simp [iN, List.map_set]] at this
  exact this
theorem PtM.push (h : PtM base xb pb gp n v0 v1 v2 Ao mo co ord As ms cs st w0 w) {A' : Option Addr} {c' x : Nat} (o : w'.ownsRow base 3 1 (.slice A' (ms + 1) c') (ms + 1) (iN st.size ++ [.int .i64 (x : Nat)])) (g : w.grownBy w' (Value.slice As ms cs).ownBlock) (k4 : ∀ k, (Value.slice A' (ms + 1) c').ownBlock = some k → (Value.slice As ms cs).ownBlock = some k ∨ w.heap.size ≤ k) (hb : Below base w0 w') :
    PtM base xb pb gp n v0 v1 v2 Ao mo co ord A' (ms + 1) c' { st with size := st.size ++ [x] } w0 w' := by
  have hf := Fr.grown g
  refine ⟨hf.blk h.box (own_ne h.size h.box (by decide)), hf.blk h.pbox (own_ne h.size h.pbox (by decide)), hf.blk h.part h.sn, hf.own h.ord fun b hb e => h.os b hb e, by rw [← iN_snoc]; exact o, h.on, fun e => ?_, fun k hk e => ?_, h.ge, hb⟩
  · rcases k4 gp e with h1 | h1
    · exact h.sn h1
    · have := h.part.lt; omega
  · rcases k4 k e with h1 | h1
    · exact h.os k hk h1
    · have := (own_lt h.ord hk).2; omega
end
/-- the rings under way, in memory -/
structure RkM (base xb pb gp gq n : Nat) (v0 v1 v2 : Value) (As : Option Addr) (ms cs : Nat) (st : Pt) (Ar : Option Addr) (mr cr : Nat) (gv : List Value) (r : Rn) (w0 w : World) : Prop where
  box : Blk w xb 83 #[v0, v1, v2]
  pbox : Blk w pb 22 #[.slice (some ⟨gp, 0, none⟩) n n]
  part : Blk w gp 3 (iN st.part).toArray
  size : w.ownsRow base 3 1 (.slice As ms cs) ms (iN st.size)
  place : Blk w gq 3 (iN r.place).toArray
  rows : RwB base (.slice Ar mr cr) mr gv (r.rings.map strs) w
  pq : gp ≠ gq
  sq : (Value.slice As ms cs).ownBlock ≠ some gq
  ge : base ≤ gq
  fr : Below base w0 w
section
variable {base xb pb gp gq n ms cs mr cr : Nat} {v0 v1 v2 : Value} {As Ar : Option Addr} {st : Pt} {gv : List Value} {r : Rn} {w0 w w' : World}
theorem RkM.frn (h : RkM base xb pb gp gq n v0 v1 v2 As ms cs st Ar mr cr gv r w0 w) (hf : Fr (fun _ => False) w w') : RkM base xb pb gp gq n v0 v1 v2 As ms cs st Ar mr cr gv r w0 w' :=
  ⟨hf.blk h.box fun h => h, hf.blk h.pbox fun h => h, hf.blk h.part fun h => h, hf.own h.size fun _ _ h => h, hf.blk h.place fun h => h, h.rows.frn hf, h.pq, h.sq, h.ge, h.fr.trans (hf.below (fun _ h => h.elim) (by have := h.place.lt; have := h.ge; omega))⟩
theorem RkM.cp (h : RkM base xb pb gp gq n v0 v1 v2 As ms cs st Ar mr cr gv r w0 w) {x b : Nat} (hb : st.part[x]? = some b) : w.cell? ⟨gp, x, none⟩ = some (.int .i64 (b : Nat)) := by
  rw [h.part.cell]; simp [iN, hb]
theorem RkM.cq (h : RkM base xb pb gp gq n v0 v1 v2 As ms cs st Ar mr cr gv r w0 w) {x b : Nat} (hb : r.place[x]? = some b) : w.cell? ⟨gq, x, none⟩ = some (.int .i64 (b : Nat)) := by
  rw [h.place.cell]; simp [iN, hb]
theorem RkM.set (h : RkM base xb pb gp gq n v0 v1 v2 As ms cs st Ar mr cr gv r w0 w) (x v : Nat) : RkM base xb pb gp gq n v0 v1 v2 As ms cs st Ar mr cr gv { r with place := r.place.set x v } w0 (w.setCell ⟨gq, x, none⟩ (.int .i64 (v : Nat))) := by
  have hf := Fr.setCell w ⟨gq, x, none⟩ (.int .i64 (v : Nat))
  refine ⟨hf.blk h.box fun (e : xb = gq) => blk_ne h.box h.place (by decide) e, hf.blk h.pbox fun (e : pb = gq) => blk_ne h.pbox h.place (by decide) e, hf.blk h.part h.pq, hf.own h.size fun b hb (e : b = gq) => h.sq (e ▸ hb), ?_, h.rows.frb hf h.place (by decide) (by decide), h.pq, h.sq, h.ge, h.fr.trans (hf.below (fun k (e : k = gq) => by rw [e]; exact h.ge) (by have := h.place.lt; have := h.ge; omega))⟩
  have := h.place.set x (.int .i64 (v : Nat))
  rw [show (iN r.place).toArray.setIfInBounds x (.int .i64 (v : Nat)) = (iN (r.place.set x v)).toArray from by simp [iN, List.map_set]] at this
  exact this
theorem RkM.open (h : RkM base xb pb gp gq n v0 v1 v2 As ms cs st Ar mr cr gv r w0 w) {A' : Option Addr} {c' : Nat} (o : w'.ownsRow base 33 1 (.slice A' (mr + 1) c') (mr + 1) (gv ++ [.slice none 0 0])) (g : w.grownBy w' (Value.slice Ar mr cr).ownBlock) (hb : Below base w0 w') :
    RkM base xb pb gp gq n v0 v1 v2 As ms cs st A' (mr + 1) c' (gv ++ [.slice none 0 0]) { r with rings := r.rings ++ [[]] } w0 w' := by
  have hf := Fr.grown g
  have ho := h.rows.own
  refine ⟨hf.blk h.box (own_ne ho h.box (by decide)), hf.blk h.pbox (own_ne ho h.pbox (by decide)), hf.blk h.part (own_ne ho h.part (by decide)), hf.own h.size fun b hb e => own_own_ne h.size ho (by decide) hb e, hf.blk h.place (own_ne ho h.place (by decide)), ?_, h.pq, h.sq, h.ge, hb⟩
  have := h.rows.open o g
  rwa [show r.rings.map strs ++ [[]] = (r.rings ++ [[]]).map strs from by simp [strs]] at this
theorem RkM.push {g i : Nat} {gi : Value} {l : List ByteArray} {s : ByteArray} {u : Value} {wa : World} (h : RkM base xb pb gp gq n v0 v1 v2 As ms cs st (some ⟨g, 0, none⟩) mr cr gv r w0 w) (hg : gv[i]? = some gi) (hl : r.rings[i]? = some l)
    (o : wa.ownsRow base 9 1 u (l.length + 1) (strs l ++ [.string s])) (gr : w.grownBy wa gi.ownBlock) (k4 : ∀ k, u.ownBlock = some k → gi.ownBlock = some k ∨ w.heap.size ≤ k) :
    RkM base xb pb gp gq n v0 v1 v2 As ms cs st (some ⟨g, 0, none⟩) mr cr (gv.set i u) { r with rings := r.rings.set i (l ++ [s]) } w0 (wa.setCell ⟨g, i, none⟩ u) := by
  have hl' : (r.rings.map strs)[i]? = some (strs l) := by simp [hl]
  obtain ⟨h1, h2⟩ := h.rows.push (s := .string s) hg hl' (by simpa [strs] using o) gr k4
  have ho := h.rows.own
  have hgi := h.rows.fam.own i gi _ hg hl'
  have far : ∀ {t k : Nat} {cs : Array Value}, Blk w k t cs → t ≠ 33 → t ≠ 9 → ¬ (gi.ownBlock = some k ∨ k = g) := fun hb a b e => by
    rcases e with e | e
    · exact own_ne hgi hb b e
    · exact own_ne ho hb a (by rw [e]; rfl)
  refine ⟨h2.blk h.box (far h.box (by decide) (by decide)), h2.blk h.pbox (far h.pbox (by decide) (by decide)), h2.blk h.part (far h.part (by decide) (by decide)), h2.own h.size fun b hb e => ?_, h2.blk h.place (far h.place (by decide) (by decide)), ?_, h.pq, h.sq, h.ge, h.fr.trans (h2.below (fun k e => ?_) (by have := h.place.lt; have := h.ge; omega))⟩
  · rcases e with e | e
    · exact own_own_ne h.size hgi (by decide) hb e
    · exact own_own_ne h.size ho (by decide) hb (by rw [e]; rfl)
  · show RwB _ _ _ _ ((r.rings.set i (l ++ [s])).map strs) _
    rw [List.map_set, strs, List.map_append]
    exact h1
  · rcases e with e | e
    · exact (own_lt hgi e).1
    · exact (own_lt ho (by rw [e]; rfl)).1
end
theorem iL_fresh (W : Wb ByteArray) (part : List Nat) (x n : Nat) {L : List Int} (h : Whole (freeF W part) (puts [] [(x : Int)]) L) (hL : L.length ≤ n) : L = (fresh W part x n).map Int.ofNat := by
  obtain ⟨k, rfl, hk⟩ := h
  have e : puts ([] : List Int) [(x : Int)] = [x].map Int.ofNat := by simp [puts, put1]
  rw [e] at hk hL ⊢
  have hm := fun k => cl_map (g := Int.ofNat) (fun a b h => Int.ofNat.inj h) (f := freeB W part) (f' := freeF W part) (fun a => rfl) [x] k
  rw [hm] at hk hL ⊢
  rw [List.length_map] at hk hL
  unfold fresh
  congr 1
  rcases Nat.le_total k n with h | h
  · exact (cl_done hk h).symm
  · have := cl_done (f := freeB W part) (l0 := [x]) (k := n) (j := k) (by
      exact Nat.le_trans (cl_mono (f := freeB W part) (l0 := [x]) h).length_le hL) h
    exact this
theorem fresh_any (wA : World) (n : Nat) (v0 v1 v2 : Value) (W : Wb ByteArray) (part : List Nat) (xb pb : Nat) (Ap : Option Addr) (cp : Nat) (hW : WebR wA n v0 v1 v2 W) (hok : W.Ok) (hbx : Blk wA xb 83 #[v0, v1, v2]) (hbp : Blk wA pb 22 #[.slice Ap n cp]) (hp : Rd wA Ap n 1 (iN part)) (hl : ∀ k, (W.E k).length ≤ 4194304) (hn : n ≤ 4194304)
    (x : Nat) (hx : x < n) (A : Option Addr) (c : Nat) (hr : Rd wA A 1 1 [.int .i64 (x : Nat)]) :
    Calls Try.prog 15 #[.slice A 1 c, .func (.func 55) #[] #[.pointer (some ⟨xb, 0, none⟩), .pointer (some ⟨pb, 0, none⟩)]] wA fun e w' => ∃ A m c, e = .returned (.slice A m c) ∧ m ≤ c ∧ Hid ((fresh W part x n).length = m ∧ m ≤ n ∧ w'.ownsRow wA.heap.size 3 1 (.slice A m c) m (iN (fresh W part x n)) ∧ Fr (fun _ => False) wA w') := by
  obtain ⟨U, hU⟩ : ∃ U, U = (List.range n).map Int.ofNat := ⟨_, rfl⟩
  have hUm : ∀ z : Int, z ∈ U ↔ 0 ≤ z ∧ z < (n : Int) := fun z => by
    rw [hU, List.mem_map]
    constructor
    · rintro ⟨a, ha, rfl⟩
      have := List.mem_range.1 ha
      constructor
      · exact Int.natCast_nonneg a
      · simpa using this
    · rintro ⟨h1, h2⟩
      exact ⟨z.toNat, List.mem_range.2 (by omega), by simp; omega⟩
  have hUl : U.length = n := by rw [hU]; simp
  have hfl : ∀ z, (freeF W part z).length ≤ 4194304 := fun z => by
    have := hl (false, z.toNat)
    have h2 := List.length_filter_le (fun y => decide (part[y]? = some 0)) (W.E (false, z.toNat))
    simp only [freeF, freeB, List.length_map]
    omega
  have hf : ∀ z ∈ U, ∀ y ∈ freeF W part z, y ∈ U := fun z _ y hy => by
    obtain ⟨a, ha, rfl⟩ := List.mem_map.1 hy
    have := hok.rng _ a (List.mem_filter.1 ha).1
    rw [hW.len] at this
    exact (hUm _).2 ⟨Int.natCast_nonneg a, by simpa using this⟩
  have h0 : ∀ z ∈ [(x : Int)], z ∈ U := fun z hz => by
    rw [List.mem_singleton.1 hz]
    exact (hUm _).2 ⟨by omega, by omega⟩
  have NX := rn_next wA n v0 v1 v2 W part xb pb Ap cp hW hok hbx hbp hp (fun k => by have := hl k; omega) (by omega) U fun z hz => (hUm z).1 hz
  refine (closei_any 55 _ (enters_of Try.func55 (by kernel_rfl) rfl) (freeF W part) U (KIi wA) (kii_inv wA) NX (fun z hz => ?_) hf (fun z _ => ?_) [(x : Int)] h0 (by simp) A 1 c (fun k => k < wA.heap.size) wA hr ⟨rfl, Nat.le_refl _, fun _ _ => rfl⟩).mono ?_
  · have := (hUm z).1 hz
    have e1 : IntKind.i64.min = -9223372036854775808 := by decide
    have e2 : IntKind.i64.max = 9223372036854775807 := by decide
    simp only [Okn, Lit.wf, e1, e2, Bool.and_eq_true, decide_eq_true_eq]
    omega
  · have := hfl z
    omega
  · rintro e w' ⟨v, L, G, rfl, hw, ho, hi, _, _, hf'⟩
    have hlen : L.length ≤ n := by
      have := hw.len (U := U) (by simp [puts, put1]) (fun z hz => h0 z (by simpa [puts, put1] using hz)) hf
      omega
    have hL := iL_fresh W part x n hw hlen
    subst hL
    rw [List.length_map] at ho hlen
    rw [← iN_iL] at ho
    obtain ⟨A', c', rfl, hc', _, _⟩ := own_slice ho
    exact ⟨A', _, c', rfl, hc', rfl, hlen, ho, kii_fr hi hf'⟩
set_option maxRecDepth 100000 in
set_option maxHeartbeats 4000000 in
theorem rings_any (ps : List Pr) (A : Option Addr) (N c : Nat) (w : World) (hr : Rd w A N 2 (ps.flatMap fPr)) (hN : ps.length = N) (hs : Szs ps) (hl : N ≤ 2097152) :
    Calls Try.prog 34 #[.slice A N c] w fun e w' => ∃ Ar mr cr gv, e = .returned (.slice Ar mr cr) ∧ mr ≤ cr ∧ Hid ((ringsL ps).length = mr ∧ RwB w.heap.size (.slice Ar mr cr) mr gv ((ringsL ps).map strs) w' ∧ Below w.heap.size w w') := by
  have WC := Mm.hid (woven_any ps A N c w hr hN hs hl)
  have WO : Hid (web (prs ps)).Ok := web_ok _
  have WN : Hid (∃ W, W = web (prs ps)) := ⟨_, rfl⟩
  clear hr hs
  go_enter Try.func34, Try.ntmps34
  obtain ⟨RS, hRS⟩ : ∃ RS, ringsL ps = RS := ⟨_, rfl⟩
  rw [hRS]
  unfold ringsL at hRS
  obtain ⟨W, hW⟩ : ∃ W, web (prs ps) = W := ⟨_, rfl⟩
  rw [hW] at WC WO hRS
  have HRS := Mm.hid hRS
  clear hRS
  clear WN hW
  go_upto_region 2 with (go_at_call 53; refine WC.out.mono ?_; rintro e w1 ⟨n, v0, v1, v2, F, wb, rfl, h1⟩; obtain ⟨hB, hn2, hE, hF⟩ := h1.out; have WR := Mm.hid hB.rd; have hWn := hB.len; obtain ⟨A0, c0, rfl, hc0, _⟩ := WR.out.nm; obtain ⟨A1, c1, _, rfl, hc1, _, _⟩ := WR.out.s1.out; obtain ⟨A2, c2, _, rfl, hc2, _, _⟩ := WR.out.s2.out; have HF := Mm.hid hF; have HE := Mm.hid hE; have HWN := Mm.hid hWn; clear hB hE hF h1 hWn)
  obtain ⟨w2, hw2⟩ : ∃ w2, w1.alloc (.cells #[.slice A0 n c0, .slice A1 n c1, .slice A2 n c2] 83) = w2 := ⟨_, rfl⟩
  obtain ⟨xb, hxb⟩ : ∃ xb, w1.heap.size = xb := ⟨_, rfl⟩
  have F2 : Hid (Fr (fun _ => False) w1 w2) := by show Fr _ _ _; rw [← hw2]; exact Fr.alloc (fun _ => False) w1 _
  have B2 : Hid (Blk w2 xb 83 #[.slice A0 n c0, .slice A1 n c1, .slice A2 n c2]) := by show Blk _ _ _ _; rw [← hw2, ← hxb]; exact Blk.new w1 _ _
  rw [hw2, hxb]
  have WR2 := Mm.hid (WR.out.frn F2.out)
  have e0 : w2.cell? ⟨xb, 0, none⟩ = some (.slice A0 n c0) := B2.out.cell 0
  have hmk := fun w => make22 n (by omega) w
  obtain ⟨gp, hgp⟩ : ∃ gp, w2.heap.size = gp := ⟨_, rfl⟩
  obtain ⟨w3, hw3⟩ : ∃ w3, ((w2.alloc (.cells (iN (List.replicate n 0)).toArray 3)).alloc (.cells #[.slice (some ⟨gp, 0, none⟩) n n] 22)).alloc (.cells #[.int .i64 0] 3) = w3 := ⟨_, rfl⟩
  have F3 : Hid (Fr (fun _ => False) w2 w3) := by
    show Fr _ _ _
    rw [← hw3]
    exact ((Fr.alloc (fun _ => False) w2 _).trans (Fr.alloc (fun _ => False) _ _) fun _ _ h => h).trans (Fr.alloc (fun _ => False) _ _) fun _ _ h => h
  have P3 : Hid (PtM gp xb (gp + 1) gp n (.slice A0 n c0) (.slice A1 n c1) (.slice A2 n c2) none 0 0 [] (some ⟨gp + 1 + 1, 0, none⟩) 1 1 ⟨List.replicate n 0, [0]⟩ w2 w3) := by
    have q0 := Blk.new w2 (iN (List.replicate n 0)).toArray 3
    obtain ⟨wa, ha⟩ : ∃ wa, w2.alloc (.cells (iN (List.replicate n 0)).toArray 3) = wa := ⟨_, rfl⟩
    have sa : wa.heap.size = gp + 1 := by rw [← ha]; simp [hgp]
    rw [hgp, ha] at q0
    have q1 := Blk.new wa #[.slice (some ⟨gp, 0, none⟩) n n] 22
    obtain ⟨wb, hb⟩ : ∃ wb, wa.alloc (.cells #[.slice (some ⟨gp, 0, none⟩) n n] 22) = wb := ⟨_, rfl⟩
    have sb : wb.heap.size = gp + 1 + 1 := by rw [← hb]; simp [sa]
    have fb : Fr (fun _ => False) wa wb := hb ▸ Fr.alloc (fun _ => False) wa _
    rw [sa, hb] at q1
    have q2 := own_lit1 wb gp 3 (.int .i64 0) (by omega)
    have fc := Fr.alloc (fun _ => False) wb (.cells #[.int .i64 0] 3)
    rw [sb] at q2
    rw [ha, hb] at hw3
    rw [hw3] at q2 fc
    refine ⟨F3.out.blk B2.out fun h => h, fc.blk q1 fun h => h, (fb.trans fc fun _ _ h => h).blk q0 fun h => h, ⟨rfl, .inl ⟨rfl, rfl⟩⟩, q2, (fun e => nomatch e), (fun e => ?_), (fun _ e => nomatch e), Nat.le_refl _, F3.out.below (fun _ h => h.elim) (by omega)⟩
    have : some (gp + 1 + 1) = some gp := e
    injection this with this
    omega
  have WR3 := Mm.hid (WR2.out.frn F3.out)
  have LC := Mm.hid (left_any n _ _ _ W w3 WR3.out WO.out (by omega) (fun k => by have := HE.out k; omega))
  obtain ⟨ord, hord⟩ : ∃ ord, (leave (fun x => W.E (true, x)) n).order = ord := ⟨_, rfl⟩
  have HR : Hid (∀ x, ∀ y ∈ (fun x => W.E (true, x)) x, y < n) := fun x y hy => by have := WO.out.rng _ y hy; rwa [HWN.out] at this
  have HOL : Hid (∀ x ∈ ord, x < n) := fun x hx => leave_lt HR.out (by rw [hord]; exact hx)
  have HON : Hid (ord.length ≤ n) := by show _ ≤ _; rw [← hord]; exact leave_len HR.out
  obtain ⟨T, hT⟩ : ∃ T, parts W n = T := ⟨_, rfl⟩
  have HRT : Hid ((rnAll W T n).rings = RS) := by
    show _ = _
    have h := HRS.out
    rwa [HWN.out, hT] at h
  have HT0 : Hid (ord.reverse.foldl (pstep W n) ⟨List.replicate n 0, [0]⟩ = T) := by show _ = _; rw [← hT, parts, hord]
  rw [hord] at LC
  have hsz : (w2.alloc (.cells (iN (List.replicate n 0)).toArray 3)).heap.size = gp + 1 := by simp [hgp]
  have d3 : w3.cell? ⟨xb, 0, none⟩ = some (.slice A0 n c0) := P3.out.box.cell 0
  have d4 : w3.cell? ⟨xb, 1, none⟩ = some (.slice A1 n c1) := P3.out.box.cell 1
  have d5 : w3.cell? ⟨xb, 2, none⟩ = some (.slice A2 n c2) := P3.out.box.cell 2
  go_upto_region 4 with (fail)
  clear e0 hmk
  go_upto_region 5 with (go_at_call 54; refine LC.out.mono ?_; rintro e w4 ⟨Ao, mo, co, rfl, hco, h4⟩)
  have hmo := h4.out.1
  have hOL : ord.length ≤ n := HON.out
  have P4 : Hid (PtM gp xb (gp + 1) gp n (.slice A0 n c0) (.slice A1 n c1) (.slice A2 n c2) Ao mo co ord (some ⟨gp + 1 + 1, 0, none⟩) 1 1 ⟨List.replicate n 0, [0]⟩ w2 w4) := by
    obtain ⟨_, ho, hf⟩ := h4.out
    have h := P3.out.frn hf
    have hge := F3.out.size
    have hlt : ∀ k, (Value.slice Ao mo co).ownBlock = some k → w3.heap.size ≤ k := fun k hk => (own_lt ho hk).1
    refine ⟨h.box, h.pbox, h.part, own_mono ho (by omega), h.size, fun e => ?_, h.sn, fun k hk e => ?_, h.ge, h.fr⟩
    · have := hlt _ e
      have := P3.out.part.lt
      omega
    · have := hlt _ hk
      have : some (gp + 1 + 1) = some k := e
      injection this with this
      have := (own_lt P3.out.size (b := k) e).2
      omega
  have PZ : Hid (PtOk n ⟨List.replicate n 0, [0]⟩) := pzero_ok n
  clear h4 LC P3 d3 d4 d5 hT hord
  go_upto_region 6 with (fail)
  go_loopw [5, 7, 8, 9, 11] (fun sv iv _ _ _ wr => ∃ (k : Nat) (z : Int) (As : Option Addr) (ms cs : Nat), k ≤ mo ∧ iv = .int .i64 z ∧ z = (k : Int) - 1 ∧ sv = .slice As ms cs ∧ ms ≤ cs ∧ ms + k ≤ mo + 1 ∧ Hid (∃ st, (ord.take k).reverse.foldl (pstep W n) st = T ∧ PtOk n st ∧ PtM gp xb (gp + 1) gp n (.slice A0 n c0) (.slice A1 n c1) (.slice A2 n c2) Ao mo co ord As ms cs st w2 wr)) (fun _ iv _ _ _ _ => (intOf iv + 1).toNat)
  case atStart => exact ⟨mo, (mo : Int) - 1, some ⟨gp + 1 + 1, 0, none⟩, 1, 1, Nat.le_refl _, rfl, rfl, rfl, Nat.le_refl _, by omega, ⟨_, by rw [List.take_of_length_le (by omega)]; exact HT0.out, PZ.out, P4.out⟩⟩
  case round =>
    obtain ⟨k, z, As, ms, cs, hk, rfl, hz, rfl, hcs, hms, HQ⟩ := hrel
    clear P4 PZ
    obtain ⟨st, hst, hpo, hM⟩ := HQ.out
    cases k with
    | zero =>
      obtain rfl : z = -1 := by omega
      clear hz
      have hst' : st = T := hst
      subst hst'
      have HM := Mm.hid hM
      have HPO := Mm.hid hpo
      have hml : st.size.length = ms := by have := own_len hM.size; rwa [iN_len] at this
      have hms0 : 1 ≤ ms := by rw [← hml]; exact hpo.pos
      have RN : Hid (Rd w2 A0 n 1 (strs W.ns)) := by
        obtain ⟨A', c', e, _, r⟩ := WR2.out.nm
        injection e with e1 _ e3
        subst e1
        exact r
      have hmk : ∀ w, (Instr.makeSlice 22 (.int .i64 (ms : Int)) (.int .i64 (ms : Int))).run Try.prog w = .ok (.slice (some ⟨w.heap.size, 0, none⟩) ms ms) (w.alloc (.cells (iN (List.replicate ms 0)).toArray 3)) := fun w => make22 ms (by omega) w
      obtain ⟨gq, hgq⟩ : ∃ gq, wr.heap.size = gq := ⟨_, rfl⟩
      obtain ⟨w6, hw6⟩ : ∃ w6, wr.alloc (.cells (iN (List.replicate ms 0)).toArray 3) = w6 := ⟨_, rfl⟩
      have F6 : Hid (Fr (fun _ => False) wr w6) := by show Fr _ _ _; rw [← hw6]; exact Fr.alloc (fun _ => False) wr _
      have M6 := Mm.hid (hM.frn F6.out)
      have B6 : Hid (Blk w6 gq 3 (iN (List.replicate ms 0)).toArray) := by show Blk _ _ _ _; rw [← hw6, ← hgq]; exact Blk.new wr _ _
      have hgpq : gp < gq := by rw [← hgq]; exact hM.part.lt
      have e0 : w6.cell? ⟨xb, 0, none⟩ = some (.slice A0 n c0) := M6.out.box.cell 0
      have ST : Hid (∃ gv r, r = (List.range 0).foldl (rstep W st) ⟨List.replicate ms 0, []⟩ ∧ RnOk ms 0 r ∧ RkM gp xb (gp + 1) gp gq n (.slice A0 n c0) (.slice A1 n c1) (.slice A2 n c2) As ms cs st none 0 0 gv r w2 w6) := by
        have h := M6.out
        refine ⟨[], _, rfl, ⟨by simp, fun p hp => by have := (List.mem_replicate.1 hp).2; omega, Nat.le_refl _, fun l hl => by simp at hl⟩, ⟨h.box, h.pbox, h.part, h.size, B6.out, ⟨⟨rfl, .inl ⟨rfl, rfl⟩⟩, Fam.nil _ _ _ (by have := h.part.lt; omega)⟩, by omega, fun e => ?_, by omega, h.fr⟩⟩
        have := (own_lt hM.size e).2
        omega
      have EFIN : Hid (RS = ((List.range n).foldl (rstep W st) ⟨List.replicate ms 0, []⟩).rings) := by show _ = _; rw [← HRT.out, ← hml]; rfl
      clear hM hpo hst HQ HT0
      go_upto_region 20 with (fail)
      clear e0 hmk hw6
      go_loopw [12, 14, 15, 16, 72] (fun rv _ _ _ iv wr => ∃ (j : Nat) (Ar : Option Addr) (mr cr : Nat), j ≤ n ∧ iv = .int .i64 (j : Nat) ∧ rv = .slice Ar mr cr ∧ mr ≤ cr ∧ Hid (∃ gv r, r = (List.range j).foldl (rstep W st) ⟨List.replicate ms 0, []⟩ ∧ RnOk ms j r ∧ RkM gp xb (gp + 1) gp gq n (.slice A0 n c0) (.slice A1 n c1) (.slice A2 n c2) As ms cs st Ar mr cr gv r w2 wr)) (fun _ _ _ _ iv _ => n - (intOf iv).toNat)
      case atStart => exact ⟨0, none, 0, 0, Nat.zero_le _, rfl, rfl, Nat.le_refl _, ST.out⟩
      case round =>
        obtain ⟨j, Ar, mr, cr, hj, rfl, rfl, hcr, HQ⟩ := hrel
        clear ST
        obtain ⟨gv, r, hrj, hro, hR⟩ := HQ.out
        by_cases hlt : j < n
        · obtain ⟨s, hs⟩ : ∃ s, W.ns[j]? = some s := ⟨_, List.getElem?_eq_getElem (by rw [HWN.out]; exact hlt)⟩
          obtain ⟨q, hq⟩ : ∃ q, st.part[j]? = some q := ⟨_, List.getElem?_eq_getElem (by rw [HPO.out.len]; exact hlt)⟩
          have hqm : q < ms := by rw [← hml]; exact HPO.out.lt q (List.mem_of_getElem? hq)
          obtain ⟨z, hz⟩ : ∃ z, st.size[q]? = some z := ⟨_, List.getElem?_eq_getElem (by rw [hml]; exact hqm)⟩
          obtain ⟨p, hp⟩ : ∃ p, r.place[q]? = some p := ⟨_, List.getElem?_eq_getElem (by rw [hro.len]; exact hqm)⟩
          have hfr := Fr.of_below (hgp ▸ hR.fr : Below w2.heap.size w2 wr)
          obtain ⟨adn, hadn, _, g1⟩ := (hfr.rd RN.out fun _ _ h => h).cell (show (strs W.ns)[j]? = some (.string s) by simp [strs, hs])
          subst hadn
          have WRR := Mm.hid (WR2.out.frn hfr)
          have g2 : wr.cell? ⟨gp + 1, 0, none⟩ = some (.slice (some ⟨gp, 0, none⟩) n n) := hR.pbox.cell 0
          have g3 := hR.cp hq
          obtain ⟨ads, cas, hvs, _, _, _, hcs1, _⟩ := own_blk hR.size (by omega)
          injection hvs with hv1 _ hv3
          subst hv1
          subst hv3
          have g4 := hcs1 q _ (iN_get hz)
          have d0 : wr.cell? ⟨xb, 0, none⟩ = some (.slice (some adn) n c0) := hR.box.cell 0
          have d1 : wr.cell? ⟨xb, 1, none⟩ = some (.slice A1 n c1) := hR.box.cell 1
          have d2 : wr.cell? ⟨xb, 2, none⟩ = some (.slice A2 n c2) := hR.box.cell 2
          have LP := Mm.hid (loops_any n _ _ _ W j wr WRR.out hlt (by omega) (by have := HE.out (true, j); omega))
          have HSO : Hid (solo W st j ↔ z < 2 ∧ j ∉ W.E (true, j)) := by
            show _ ↔ _
            unfold solo
            rw [hq]
            simp only [Option.getD_some]
            rw [hz]
            rfl
          have HRJ := Mm.hid hrj
          have HRO := Mm.hid hro
          have HR := Mm.hid hR
          have HSQ := Mm.hid (show W.ns[j]? = some s ∧ st.part[j]? = some q ∧ r.place[q]? = some p from ⟨hs, hq, hp⟩)
          have HNX : Hid ((List.range (j + 1)).foldl (rstep W st) ⟨List.replicate ms 0, []⟩ = rstep W st r j) := by show _ = _; rw [range_foldl_succ, ← hrj]
          clear hs hq hz hp hR hro hrj hfr HQ hcs1
          go_upto_region 23 with (fail)
          go_cut [72, 91] from 72 to 123 (fun iv bv wc => iv = .int .i64 (j : Nat) ∧ bv = .bool (decide (solo W st j)) ∧ Hid (Fr (fun _ => False) wr wc))
          case first =>
            by_cases hz2 : z < 2
            · go_wp2_with (go_at_call 56; refine LP.out.mono ?_; rintro e w7 ⟨rfl, h7⟩)
              go_meet
              exact ⟨rfl, congrArg Value.bool (by rw [Bool.eq_iff_iff]; simp [HSO.out, hz2]), h7⟩
            · go_wp2_with fail
              go_meet
              exact ⟨rfl, congrArg Value.bool (by rw [Bool.eq_iff_iff]; simp [HSO.out, hz2]), Fr.refl _ _⟩
          case rest =>
            obtain ⟨rfl, rfl, hfc⟩ := hcut
            have RC := Mm.hid (HR.out.frn hfc.out)
            by_cases hso : solo W st j
            · have hd : decide (solo W st j) = true := decide_eq_true hso
              have NX : Hid (∃ gv r, r = (List.range (j + 1)).foldl (rstep W st) ⟨List.replicate ms 0, []⟩ ∧ RnOk ms (j + 1) r ∧ RkM gp xb (gp + 1) gp gq n (.slice (some adn) n c0) (.slice A1 n c1) (.slice A2 n c2) (some ⟨ads, 0, none⟩) ms cs st Ar mr cr gv r w2 wc) := by
                refine ⟨gv, r, ?_, HRO.out.more (by omega), RC.out⟩
                rw [HNX.out]
                exact (if_pos hso).symm
              clear LP HNX HSO
              rw [hd]
              go_wp2_with fail
              go_roundw
              case rel => exact ⟨j + 1, Ar, mr, cr, by omega, by go_num, rfl, hcr, NX⟩
              case measure => simp [intOf] <;> omega
            · have hd : decide (solo W st j) = false := decide_eq_false hso
              have HRP : Hid (rstep W st r j = rput (ropen r q) q s) := by
                show _ = _
                unfold rstep
                rw [if_neg hso, HSQ.out.2.1, HSQ.out.1]
                rfl
              have HOP := Mm.hid (ropen_ok HRO.out (by rw [← HRO.out.len] at hqm; exact HRO.out.len ▸ hqm))
              have g5 : wc.cell? ⟨gq, q, none⟩ = some (.int .i64 (p : Nat)) := RC.out.cq HSQ.out.2.2
              have hmrj : mr ≤ j := by
                have h1 := RC.out.rows.fam.len
                have h2 := own_len RC.out.rows.own
                have h3 := HRO.out.cnt
                simp at h1
                omega
              clear LP HSO hso g1 g2 g3 g4 d0 d1 d2
              rw [hd]
              go_upto_if 96 with (fail)
              go_cut [12, 72] from 72 to 123 (fun rv iv wc => ∃ (Ar : Option Addr) (mr cr : Nat), rv = .slice Ar mr cr ∧ mr ≤ cr ∧ iv = .int .i64 (j : Nat) ∧ Hid (∃ gv, RkM gp xb (gp + 1) gp gq n (.slice (some adn) n c0) (.slice A1 n c1) (.slice A2 n c2) (some ⟨ads, 0, none⟩) ms cs st Ar mr cr gv (ropen r q) w2 wc))
              case first =>
                by_cases hp0 : p = 0
                · subst hp0
                  have HO1 : Hid (ropen r q = ⟨r.place.set q (r.rings.length + 1), r.rings ++ [[]]⟩) := if_pos (by rw [HSQ.out.2.2]; rfl)
                  have HRL : Hid (r.rings.length = mr) := by
                    show _ = _
                    have h1 := RC.out.rows.fam.len
                    have h2 := own_len RC.out.rows.own
                    simp at h1
                    omega
                  have HSo : Hid (∀ u ∈ (#[.slice none 0 0] : Array Value).toList, u.oneCell' = true) := by intro u hu; simp at hu; subst hu; rfl
                  have HLo : Hid ((mr + 1) * 24 ≤ 140737488355328) := by show _ ≤ _; omega
                  have RO := Mm.hid RC.out.rows.own
                  have BO := Mm.hid RC.out.fr
                  have SZ : Hid (gp ≤ wc.heap.size) := by show _ ≤ _; have := RC.out.part.lt; omega
                  go_wp2_with (at_builtin; go_must (refine wp_ape1 gp rfl (.tmp 97) (.tmp 98) 49 33 (.slice none 0 0) 1 24 #[.slice none 0 0] rfl Try.underlying49 info33 rfl (by decide) (by decide) (.slice Ar mr cr) mr _ rfl rfl rfl HSo.out RO.out BO.out SZ.out HLo.out ?_; intro v1 wb k1 k2 k3 k4; obtain ⟨A3, c3, hv, hc3, _, _⟩ := own_slice k1; subst hv; have K1 := Mm.hid k1; have K2 := Mm.hid k2; have K3 := Mm.hid k3; have hM7 := RC.out.open K1.out K3.out K2.out; have z1 : wb.cell? ⟨gq, q, none⟩ = some (.int .i64 ((0 : Nat) : Int)) := hM7.cq HSQ.out.2.2; have z2 : wb.frozen? ⟨gq, q, none⟩ = false := hM7.place.free q; have M7 := Mm.hid hM7; clear k1 k2 k3 k4 hM7))
                  have NX : Hid (∃ gv, RkM gp xb (gp + 1) gp gq n (.slice (some adn) n c0) (.slice A1 n c1) (.slice A2 n c2) (some ⟨ads, 0, none⟩) ms cs st A3 (mr + 1) c3 gv (ropen r q) w2 (wb.setCell ⟨gq, q, none⟩ (.int .i64 ((mr + 1 : Nat) : Int)))) := by
                    refine ⟨gv ++ [.slice none 0 0], ?_⟩
                    rw [HO1.out, HRL.out]
                    exact M7.out.set q (mr + 1)
                  clear z1 z2
                  go_wp2_with fail
                  go_meet
                  exact ⟨A3, mr + 1, c3, rfl, hc3, rfl, by simpa using NX⟩
                · have hne : ((p : Int) == 0) = false := beq_eq_false_iff_ne.2 (by omega)
                  have NX : Hid (∃ gv, RkM gp xb (gp + 1) gp gq n (.slice (some adn) n c0) (.slice A1 n c1) (.slice A2 n c2) (some ⟨ads, 0, none⟩) ms cs st Ar mr cr gv (ropen r q) w2 wc) := by
                    refine ⟨gv, ?_⟩
                    rw [show ropen r q = r from if_neg (by rw [HSQ.out.2.2]; exact hp0)]
                    exact RC.out
                  go_wp2_with fail
                  go_meet
                  exact ⟨Ar, mr, cr, rfl, hcr, rfl, NX⟩
              case rest =>
                obtain ⟨Ar, mr, cr, rfl, hcr, rfl, hcc⟩ := hcut
                obtain ⟨gv, hRk⟩ := hcc.out
                have HPUT : Hid (RnOk ms (j + 1) (rput (ropen r q) q s)) := rput_ok HOP.out.1 HOP.out.2.2 s
                obtain ⟨r1, hr1⟩ : ∃ r1, ropen r q = r1 := ⟨_, rfl⟩
                rw [hr1] at hRk HRP HOP HPUT
                obtain ⟨p1, hp1⟩ : ∃ p1, r1.place[q]? = some p1 := ⟨_, List.getElem?_eq_getElem (by rw [HOP.out.1.len]; exact hqm)⟩
                have hp1' : 1 ≤ p1 := by have h := HOP.out.2.1; rw [hp1] at h; exact h
                obtain ⟨i, rfl⟩ : ∃ i, p1 = i + 1 := ⟨p1 - 1, by omega⟩
                have hgl : gv.length = mr := own_len hRk.rows.own
                have hrl : r1.rings.length = mr := by have := hRk.rows.fam.len; simp at this; omega
                have him : i < mr := by have := HOP.out.1.lt _ (List.mem_of_getElem? hp1); omega
                have hmrj1 : mr ≤ j + 1 := by have := HOP.out.1.cnt; omega
                obtain ⟨l, hl1⟩ : ∃ l, r1.rings[i]? = some l := ⟨_, List.getElem?_eq_getElem (by omega)⟩
                obtain ⟨gi, hgi⟩ : ∃ gi, gv[i]? = some gi := ⟨_, List.getElem?_eq_getElem (by omega)⟩
                have hlj : l.length ≤ j := HOP.out.2.2 l (List.mem_of_getElem? hl1)
                have hown := hRk.rows.fam.own i gi (strs l) hgi (by simp [hl1])
                rw [strs_len] at hown
                obtain ⟨li, hli⟩ : ∃ li, l.length = li := ⟨_, rfl⟩
                rw [hli] at hown hlj
                obtain ⟨Ai, ci, rfl, hci, _, _⟩ := own_slice hown
                obtain ⟨gr, crr, hvr, _, _, hgrl, hcr1, _⟩ := own_blk hRk.rows.own (by omega)
                injection hvr with hv1 _ hv3
                subst hv1
                subst hv3
                have eb : (((i + 1 : Nat) : Int)) - 1 = (i : Int) := by omega
                have hwi : IntKind.i64.wrap ((i : Nat) : Int) = (i : Int) := IntWalk.i64_in _ (by omega)
                have hbi : (0 : Int) ≤ (i : Int) ∧ (i : Int) < (mr : Int) := by omega
                have d1 : wc.cell? ⟨gq, q, none⟩ = some (.int .i64 ((i + 1 : Nat) : Int)) := hRk.cq hp1
                have d2 : wc.cell? ⟨gr, i, none⟩ = some (.slice Ai li ci) := hcr1 i _ hgi
                obtain ⟨W9, hW9⟩ : ∃ W9, (wc.alloc (.cells #[.string s] 9)).drew = W9 := ⟨_, rfl⟩
                have F9 : Hid (Fr (fun _ => False) wc W9) := by show Fr _ _ _; rw [← hW9]; exact (Fr.alloc (fun _ => False) wc _).trans (Fr.drew (fun _ => False) _) fun _ _ h => h
                have BX : Hid (Blk W9 wc.heap.size 9 #[.string s]) := by show Blk _ _ _ _; rw [← hW9]; exact (Blk.new wc _ _).keep rfl
                have V9 := Mm.hid (hRk.frn F9.out)
                have R9 : Hid (W9.ownsRow gp 9 1 (.slice Ai li ci) li (strs l)) := F9.out.own hown fun _ _ h => h
                have C9 := Mm.hid V9.out.rows.own
                have SZ9 : Hid (gp ≤ W9.heap.size) := by show _ ≤ _; have := V9.out.part.lt; omega
                have HL9 : Hid ((li + 1) * 16 ≤ 140737488355328) := by show _ ≤ _; omega
                have HS9 : Hid (∀ u ∈ (#[.string s] : Array Value).toList, u.oneCell' = true) := by intro u hu; simp at hu; subst hu; rfl
                have hdn : gq ≠ wc.heap.size := Nat.ne_of_lt hRk.place.lt
                have hdn' := hdn.symm
                have hgn : gr ≠ wc.heap.size := Nat.ne_of_lt hgrl
                have hgn' := hgn.symm
                have d3 : (wc.alloc (.cells #[.string s] 9)).cell? ⟨gq, q, none⟩ = some (.int .i64 ((i + 1 : Nat) : Int)) := (Fr.alloc (fun _ => False) wc _).cell d1 fun h => h
                have d4 : (wc.alloc (.cells #[.string s] 9)).cell? ⟨gr, i, none⟩ = some (.slice Ai li ci) := (Fr.alloc (fun _ => False) wc _).cell d2 fun h => h
                have HW9 := Mm.hid hW9
                have HGI := Mm.hid (show gv[i]? = some (.slice Ai li ci) ∧ r1.place[q]? = some (i + 1) from ⟨hgi, hp1⟩)
                have HLI := Mm.hid hli
                have NXJ : Hid (∀ (wz : World) (u : Value), wz.ownsRow gp 9 1 u (li + 1) (strs l ++ [.string s]) → W9.grownBy wz (Value.slice Ai li ci).ownBlock → (∀ k, u.ownBlock = some k → (Value.slice Ai li ci).ownBlock = some k ∨ W9.heap.size ≤ k) → ∃ gv r, r = (List.range (j + 1)).foldl (rstep W st) ⟨List.replicate ms 0, []⟩ ∧ RnOk ms (j + 1) r ∧ RkM gp xb (gp + 1) gp gq n (.slice (some adn) n c0) (.slice A1 n c1) (.slice A2 n c2) (some ⟨ads, 0, none⟩) ms cs st (some ⟨gr, 0, none⟩) mr cr gv r w2 (wz.setCell ⟨gr, i, none⟩ u)) := fun wz u ho hg hk => by
                  refine ⟨gv.set i u, rput r1 q s, by rw [HNX.out, HRP.out], HPUT.out, ?_⟩
                  have h := V9.out.push (s := s) hgi hl1 (by rw [hli]; exact ho) hg hk
                  have e : rput r1 q s = { r1 with rings := r1.rings.set i (l ++ [s]) } := by
                    unfold rput
                    rw [hp1]
                    simp [hl1]
                  rw [e]
                  exact h
                clear hgi hp1 hl1 hli hown hRk hcr1 hcc hW9 HNX HRP HOP HPUT hr1 g5
                go_upto_region 27 with (fail)
                go_region_law ((rw [HW9.out]; refine step_ape1 gp rfl (.tmp 118) (.tmp 120) 33 9 (.string ByteArray.empty) 1 16 #[.string s] wc.heap.size rfl Try.underlying33 info9 rfl (by decide) (by decide) (.slice Ai li ci) li _ rfl rfl BX.out rfl HS9.out R9.out SZ9.out HL9.out ?_; intro u wa k1 k3 k4; obtain ⟨A3, c3, hv, hc3, _, _⟩ := own_slice k1; subst hv; have con := (Fr.grown k3).own C9.out (fun b hb e => own_own_ne C9.out R9.out (by decide) hb e); obtain ⟨g', cap', hv', _, _, _, hc', hf'⟩ := own_blk con (by omega); injection hv' with hx1 _ hx2; injection hx1 with hx1; injection hx1 with hx1; subst hx1; subst hx2; have z1 : wa.cell? ⟨gq, q, none⟩ = some (.int .i64 ((i + 1 : Nat) : Int)) := ((Fr.grown k3).cell (V9.out.cq HGI.out.2) (fun e => own_ne R9.out V9.out.place (by decide) e)); have z2 : wa.cell? ⟨gr, i, none⟩ = some (.slice Ai li ci) := hc' i _ HGI.out.1; have z3 : wa.frozen? ⟨gr, i, none⟩ = false := hf' i; have K1 := Mm.hid k1; have K3 := Mm.hid k3; have K4 := Mm.hid k4; clear k1 k3 k4 con hc' hf'))
                all_goals (
                  have NX := Mm.hid (NXJ.out wa (.slice A3 (li + 1) c3) K1.out K3.out (fun k hk => by
                    rcases K4.out with e | e
                    · exact .inl (e ▸ hk)
                    · rw [hk] at e; injection e with e; exact .inr (Nat.le_of_eq e.symm)))
                  clear z1 z2 z3 d1 d2 d3 d4
                  go_wp2_with fail
                  go_roundw
                  case rel => exact ⟨j + 1, _, mr, cr, by omega, by go_num, rfl, hcr, NX⟩
                  case measure => simp [intOf] <;> omega)
        · have hjn : j = n := by omega
          subst hjn
          have FIN : Hid (RS.length = mr ∧ RwB w.heap.size (.slice Ar mr cr) mr gv (RS.map strs) wr ∧ Below w.heap.size w wr) := by
            show _ ∧ _ ∧ _
            rw [EFIN.out, ← hrj]
            have h1 := hR.rows.fam.len
            have h2 := own_len hR.rows.own
            have h3 : w.heap.size ≤ gp := by have := HF.out.size; have := F2.out.size; omega
            refine ⟨by simp at h1; omega, ⟨own_mono hR.rows.own h3, ⟨h1, fun i v xs hv hx => own_mono (hR.rows.fam.own i v xs hv hx) h3, hR.rows.fam.dis, Nat.le_trans h3 hR.rows.fam.low⟩⟩, ?_⟩
            have hfr := Fr.of_below (hgp ▸ hR.fr : Below w2.heap.size w2 wr)
            exact ((HF.out.trans F2.out fun _ _ h => h).trans hfr fun _ _ h => h).below (fun _ h => h.elim) (Nat.le_refl _)
          clear hrj hro hR HQ
          go_wp2_with fail
          go_ret
          exact ⟨Ar, mr, cr, gv, rfl, hcr, FIN⟩
    | succ k =>
      obtain rfl : z = (k : Nat) := by omega
      clear hz
      obtain ⟨x, hx⟩ : ∃ x, ord[k]? = some x := ⟨_, List.getElem?_eq_getElem (by omega)⟩
      have hxn := HOL.out x (List.mem_of_getElem? hx)
      obtain ⟨b, hb⟩ : ∃ b, st.part[x]? = some b := ⟨_, List.getElem?_eq_getElem (by rw [hpo.len]; exact hxn)⟩
      have hstep : (ord.take k).reverse.foldl (pstep W n) (pstep W n st x) = T := by
        rw [take_snoc' hx, List.reverse_append] at hst
        exact hst
      obtain ⟨ado, cado, hvo, _, _, _, hco1, _⟩ := own_blk hM.ord (by omega)
      injection hvo with hv1 _ hv3
      subst hv1
      subst hv3
      have g0 : wr.cell? ⟨gp + 1, 0, none⟩ = some (.slice (some ⟨gp, 0, none⟩) n n) := hM.pbox.cell 0
      have g1 := hco1 k _ (iN_get hx)
      have g2 := hM.cell hb
      have HM := Mm.hid hM
      have HPO := Mm.hid hpo
      have HS := Mm.hid hstep
      have HB := Mm.hid hb
      clear hM hpo hst hstep hb hco1 hx HQ
      by_cases hb0 : b = 0
      · subst hb0
        go_wp2_with fail
        go_quiet (fail)
        obtain ⟨wq, hwq⟩ : ∃ wq, wr.drewN nq = wq := ⟨_, rfl⟩
        have MQ : Hid (PtM gp xb (gp + 1) gp n (.slice A0 n c0) (.slice A1 n c1) (.slice A2 n c2) (some ⟨ado, 0, none⟩) mo co ord As ms cs st w2 wq) := by show PtM _ _ _ _ _ _ _ _ _ _ _ _ _ _ _ _ _ _; rw [← hwq]; exact HM.out.frn (Fr.drewN (fun _ => False) _ _)
        have q1 : wq.cell? ⟨ado, k, none⟩ = some (.int .i64 (x : Nat)) := by rw [← hwq]; exact g1
        rw [hwq]
        obtain ⟨wA, hwA⟩ : ∃ wA, wq.alloc (.cells #[.int .i64 (x : Nat)] 3) = wA := ⟨_, rfl⟩
        have RL : Hid (Rd wA (some ⟨wq.heap.size, 0, none⟩) 1 1 [.int .i64 (x : Nat)]) := by show Rd _ _ _ _ _; rw [← hwA]; exact Rd.lit wq #[.int .i64 (x : Nat)] 3 1 rfl
        have FA : Hid (Fr (fun _ => False) wq wA) := by show Fr _ _ _; rw [← hwA]; exact Fr.alloc (fun _ => False) wq _
        have MA := Mm.hid (MQ.out.frn FA.out)
        have hf2 := MA.out.fr
        rw [← hgp] at hf2
        have WRA := WR2.out.frn (Fr.of_below hf2)
        have hpl := HPO.out.len
        have RP : Rd wA (some ⟨gp, 0, none⟩) n 1 (iN st.part) := by
          refine ⟨by rw [iN_len, hpl, Nat.mul_one], fun _ => ⟨_, rfl, MA.out.part.lt, fun j u hu => ?_⟩⟩
          rw [add_plain, MA.out.part.cell]
          simpa using hu
        have FC := Mm.hid (fresh_any wA n _ _ _ W st.part xb (gp + 1) (some ⟨gp, 0, none⟩) n WRA WO.out MA.out.box MA.out.pbox RP (fun k => by have := HE.out k; omega) (by omega) x hxn _ 1 RL.out)
        clear g0 g1 g2 hwq hf2 WRA RP hpl
        go_wp2_with (go_at_call 15; refine FC.out.mono ?_; rintro e w5 ⟨Af, mf, cf, rfl, hcf, h5⟩)
        obtain ⟨hml, hmn, ho5, hf5⟩ := h5.out
        obtain ⟨L, hL⟩ : ∃ L, fresh W st.part x n = L := ⟨_, rfl⟩
        have HLT : Hid (∀ y ∈ L, y < n) := by show ∀ _, _; rw [← hL]; exact fresh_lt WO.out HWN.out hxn
        have HST : Hid (pstep W n st x = ⟨fill ms L st.part, st.size ++ [mf]⟩) := by
          show _ = _
          have h1 : st.size.length = ms := by have := own_len MA.out.size; rwa [iN_len] at this
          rw [← hml, ← hL, ← h1]
          unfold pstep
          rw [HB.out]
          rfl
        rw [hL] at hml ho5
        have R5 : Hid (Rd w5 Af mf 1 (iN L)) := Rd.of_own ho5
        have RG : Hid (∀ ad, Af = some ad → ¬ ad.block = gp) := fun ad ha e => by
          obtain ⟨_, _, he, _, hA, _⟩ := own_slice ho5
          injection he with he
          subst he
          have := (own_lt ho5 (hA ad ha)).1
          have := MA.out.part.lt
          omega
        have M5 := Mm.hid (MA.out.frn hf5)
        have HML := Mm.hid hml
        have I5 : Hid (PtM gp xb (gp + 1) gp n (.slice A0 n c0) (.slice A1 n c1) (.slice A2 n c2) (some ⟨ado, 0, none⟩) mo co ord As ms cs { st with part := fill ms (L.take 0) st.part } w2 w5 ∧ Fr (· = gp) w5 w5) := ⟨M5.out, Fr.refl _ _⟩
        clear h5 ho5 hf5 hml hL FC hwA q1 RL FA MA MQ
        go_loopw [11, 52] (fun _ iv wr => ∃ j : Nat, j ≤ mf ∧ iv = .int .i64 (j : Nat) ∧ Hid (PtM gp xb (gp + 1) gp n (.slice A0 n c0) (.slice A1 n c1) (.slice A2 n c2) (some ⟨ado, 0, none⟩) mo co ord As ms cs { st with part := fill ms (L.take j) st.part } w2 wr ∧ Fr (· = gp) w5 wr)) (fun _ iv _ => mf - (intOf iv).toNat)
        case atStart => exact ⟨0, Nat.zero_le _, rfl, I5.out⟩
        case round =>
          obtain ⟨j, hj, rfl, HI⟩ := hrel
          clear I5
          by_cases hlt : j < mf
          · obtain ⟨y, hy⟩ : ∃ y, L[j]? = some y := ⟨_, List.getElem?_eq_getElem (by rw [HML.out]; exact hlt)⟩
            have hyn := HLT.out y (List.mem_of_getElem? hy)
            obtain ⟨adf, rfl, _, g1⟩ := (HI.out.2.rd R5.out RG.out).cell (iN_get hy)
            have hM := HI.out.1
            obtain ⟨b', hb'⟩ : ∃ b', (fill ms (L.take j) st.part)[y]? = some b' := ⟨_, List.getElem?_eq_getElem (by rw [fill_len, HPO.out.len]; exact hyn)⟩
            have g0 : wr.cell? ⟨gp + 1, 0, none⟩ = some (.slice (some ⟨gp, 0, none⟩) n n) := hM.pbox.cell 0
            have g2 : wr.cell? ⟨gp, y, none⟩ = some (.int .i64 (b' : Nat)) := hM.cell hb'
            have g3 : wr.frozen? ⟨gp, y, none⟩ = false := hM.part.free y
            have NX : Hid (PtM gp xb (gp + 1) gp n (.slice A0 n c0) (.slice A1 n c1) (.slice A2 n c2) (some ⟨ado, 0, none⟩) mo co ord As ms cs { st with part := fill ms (L.take (j + 1)) st.part } w2 (wr.setCell ⟨gp, y, none⟩ (.int .i64 (ms : Nat))) ∧ Fr (· = gp) w5 (wr.setCell ⟨gp, y, none⟩ (.int .i64 (ms : Nat)))) := by
              refine ⟨?_, HI.out.2.trans (Fr.setCell wr ⟨gp, y, none⟩ _) fun _ _ e => e⟩
              rw [take_snoc' hy, fill_snoc]
              exact hM.set y ms
            clear hM HI hy hb'
            go_wp2_with fail
            go_roundw
            case rel => exact ⟨j + 1, by omega, by go_num, NX⟩
            case measure => simp [intOf] <;> omega
          · have hjm : j = mf := by omega
            subst hjm
            have M6 : Hid (PtM gp xb (gp + 1) gp n (.slice A0 n c0) (.slice A1 n c1) (.slice A2 n c2) (some ⟨ado, 0, none⟩) mo co ord As ms cs { st with part := fill ms L st.part } w2 wr) := by
              have h := HI.out.1
              rwa [List.take_of_length_le (by rw [HML.out]; exact Nat.le_refl _)] at h
            have HSo : Hid (∀ u ∈ (#[.int .i64 (j : Nat)] : Array Value).toList, u.oneCell' = true) := by intro u hu; simp at hu; subst hu; rfl
            have HLo : Hid ((ms + 1) * 8 ≤ 140737488355328) := by show _ ≤ _; omega
            have RO := Mm.hid M6.out.size
            have BO := Mm.hid M6.out.fr
            have SZ : Hid (gp ≤ wr.heap.size) := by show _ ≤ _; have := M6.out.part.lt; omega
            clear HI
            go_wp2_with (at_builtin; go_must (refine wp_ape1 gp rfl (.tmp 61) (.tmp 64) 22 3 (.int .i64 0) 1 8 #[.int .i64 (j : Nat)] rfl Try.underlying22 info3 rfl (by decide) (by decide) (.slice As ms cs) ms _ rfl rfl rfl HSo.out RO.out BO.out SZ.out HLo.out ?_; intro v1 wb k1 k2 k3 k4; obtain ⟨A3, c3, hv, hc3, _, _⟩ := own_slice k1; subst hv; have K1 := Mm.hid k1; have K2 := Mm.hid k2; have K3 := Mm.hid k3; have K4 := Mm.hid (k4_of k4); clear k1 k2 k3 k4))
            have NX : Hid (∃ st, (ord.take k).reverse.foldl (pstep W n) st = T ∧ PtOk n st ∧ PtM gp xb (gp + 1) gp n (.slice A0 n c0) (.slice A1 n c1) (.slice A2 n c2) (some ⟨ado, 0, none⟩) mo co ord A3 (ms + 1) c3 st w2 wb) := by
              refine ⟨_, HS.out, (pstep_ok HPO.out x).1, ?_⟩
              rw [HST.out]
              exact M6.out.push K1.out K3.out K4.out K2.out
            go_roundw
            case rel => exact ⟨k, _, A3, ms + 1, c3, by omega, rfl, by go_num, rfl, hc3, by omega, NX⟩
            case measure => simp [intOf] <;> omega
      · have hne : ((b : Int) != 0) = true := bne_iff_ne.2 (by omega)
        have NX : Hid ((ord.take k).reverse.foldl (pstep W n) st = T) := by
          have h := HS.out
          have e : pstep W n st x = st := if_neg (by rw [HB.out]; exact hb0)
          rwa [e] at h
        go_wp2_with fail
        go_quiet (fail)
        have FQ : Hid (Fr (fun _ => False) wr (wr.drewN nq)) := Fr.drewN (fun _ => False) _ _
        go_wp2_with fail
        go_roundw
        case rel => exact ⟨k, _, As, ms, cs, by omega, rfl, by go_num, rfl, hcs, by omega, ⟨st, NX.out, HPO.out, HM.out.frn FQ.out⟩⟩
        case measure => simp [intOf] <;> omega
end Go.Proofs.Ythjldlgmfplngaa

/- The walk of ReachClose. -/
import Derived.Test.YthjldlgmfplngaaOpenT
namespace Go.Reach
theorem cl_const {f : Int → List Int} {l0 : List Int} (hf : ∀ x, f x = []) (k : Nat) : cl f l0 k = l0 := by
  induction k with
  | zero => rfl
  | succ k ih =>
    by_cases hk : k < (cl f l0 k).length
    · rw [cl_step (List.getElem?_eq_getElem hk), hf, ih]; rfl
    · rw [cl_stop (by omega), ih]
theorem whole_const {f : Int → List Int} {l0 L : List Int} (hf : ∀ x, f x = []) (h : Whole f l0 L) : L = l0 := by
  obtain ⟨k, rfl, _⟩ := h
  exact cl_const hf k
theorem flat_le (B : Nat) : ∀ (tb : List (List Int)), (∀ xs ∈ tb, xs.length ≤ B) → tb.flatten.length ≤ tb.length * B
  | [], _ => by simp
  | xs :: tb, h => by
    have h1 := h xs List.mem_cons_self
    have h2 := flat_le B tb fun y hy => h y (List.mem_cons_of_mem _ hy)
    rw [List.flatten_cons, List.length_append, List.length_cons, Nat.succ_mul]
    omega
end Go.Reach
namespace Go.Proofs.Ythjldlgmfplngaa
open Go.RowKit Go.Mm Go.Maps Go.Reach Go.WideMaps
theorem tab_one {w : World} {A : Option Addr} {n c : Nat} {xs : List Int} (h : Rd w A n 1 (iL xs)) (hc : n ≤ c) : TabR (w.alloc (.cells #[.slice A n c] 22)) (some ⟨w.heap.size, 0, none⟩) 1 [.slice A n c] [xs] := by
  have hl : xs.length = n := by have := h.1; rw [iL_len] at this; omega
  refine ⟨Rd.lit w #[.slice A n c] 22 1 rfl, rfl, fun i v ys hv hy => ?_⟩
  rcases i with _ | i
  · simp at hv hy
    subst hv hy
    exact ⟨A, c, by rw [hl], by rw [hl]; exact hc, by rw [hl]; exact h.alloc _⟩
  · simp at hv
theorem TabR.below {w w' : World} {A : Option Addr} {n : Nat} {vs : List Value} {tb : List (List Int)} (h : TabR w A n vs tb) (hb : Below w.heap.size w w') : TabR w' A n vs tb := h.keep hb.size fun k hl => hb.block k hl
theorem tabF_len {tb : List (List Int)} {B : Nat} (h : ∀ xs ∈ tb, xs.length ≤ B) (x : Int) : (tabF tb x).length ≤ B := by
  unfold tabF
  split
  · cases ht : tb[x.toNat]? with
    | none => simp
    | some xs => simpa using h xs (List.mem_of_getElem? ht)
  · simp
theorem rep_set (x : Int) {L : List Int} {k : Nat} (hk : k < L.length) : (List.replicate k x ++ L.drop k).set k x = List.replicate (k + 1) x ++ L.drop (k + 1) := by
  rw [List.drop_eq_getElem_cons hk, List.set_append_right k x (by simp), List.length_replicate, Nat.sub_self, List.set_cons_zero, List.replicate_succ', List.append_assoc]
  rfl
/-- three lists, pairwise apart -/
structure Tri (base : Nat) (va : Value) (na : Nat) (la : List Int) (vb : Value) (nb : Nat) (lb : List Int) (vc : Value) (nc : Nat) (lc : List Int) (w : World) : Prop where
  a : w.ownsRow base 3 1 va na (iL la)
  b : w.ownsRow base 3 1 vb nb (iL lb)
  c : w.ownsRow base 3 1 vc nc (iL lc)
  ab : ∀ k, va.ownBlock = some k → vb.ownBlock ≠ some k
  ac : ∀ k, va.ownBlock = some k → vc.ownBlock ≠ some k
  bc : ∀ k, vb.ownBlock = some k → vc.ownBlock ≠ some k
section
variable {base na nb nc n' : Nat} {va vb vc v' : Value} {la lb lc l' : List Int} {w w' : World}
theorem Tri.rot (h : Tri base va na la vb nb lb vc nc lc w) : Tri base vb nb lb vc nc lc va na la w :=
  ⟨h.b, h.c, h.a, h.bc, fun k h1 h2 => h.ab k h2 h1, fun k h1 h2 => h.ac k h2 h1⟩
theorem Tri.frn (h : Tri base va na la vb nb lb vc nc lc w) (hf : Fr (fun _ => False) w w') : Tri base va na la vb nb lb vc nc lc w' :=
  ⟨hf.own h.a fun _ _ h => h, hf.own h.b fun _ _ h => h, hf.own h.c fun _ _ h => h, h.ab, h.ac, h.bc⟩
theorem Tri.set (h : Tri base va na la vb nb lb vc nc lc w) (o : w'.ownsRow base 3 1 v' n' (iL l')) (hf : Fr (fun k => va.ownBlock = some k) w w') (k4 : ∀ k, v'.ownBlock = some k → va.ownBlock = some k ∨ w.heap.size ≤ k) : Tri base v' n' l' vb nb lb vc nc lc w' :=
  ⟨o, hf.own h.b fun k hb ha => h.ab k ha hb, hf.own h.c fun k hb ha => h.ac k ha hb, fun k h1 h2 => by
    rcases k4 k h1 with h3 | h3
    · exact h.ab k h3 h2
    · have := (own_lt h.b h2).2; omega, fun k h1 h2 => by
    rcases k4 k h1 with h3 | h3
    · exact h.ac k h3 h2
    · have := (own_lt h.c h2).2; omega, h.bc⟩
end
theorem rd_grow {base m i : Nat} {Ab : Option Addr} {L r' : List Int} {v v' : Value} {W w' : World} (h : Rd W Ab m 1 (iL L)) (hb : 0 < m → ∃ g, Ab = some ⟨g, 0, none⟩) (o' : w'.ownsRow base 3 1 v' (m + i) (iL (L ++ r'))) (hl : L.length = m) (gr : W.grownBy w' v.ownBlock) (k4 : v'.ownBlock = v.ownBlock ∨ ∃ b, v'.ownBlock = some b ∧ W.heap.size ≤ b ∧ ∀ k, k < W.heap.size → w'.heap[k]? = W.heap[k]?) : Rd w' Ab m 1 (iL L) := by
  rcases Nat.eq_zero_or_pos m with h0 | h0
  · subst h0
    exact ⟨h.1, fun h => absurd h (by omega)⟩
  · obtain ⟨g, rfl⟩ := hb h0
    rcases k4 with k4 | ⟨b, _, _, k4⟩
    · by_cases hg : v.ownBlock = some g
      · obtain ⟨g', cap', e, hc, _⟩ := own_blk o' (by omega)
        subst e
        have : g' = g := by
          have h1 : (Value.slice (some ⟨g', 0, none⟩) (m + i) cap').ownBlock = some g' := rfl
          rw [← k4, h1] at hg
          injection hg
        subst this
        refine Rd.prefix o' ?_ (by omega)
        rw [iL_take, List.take_left' hl]
      · exact (Fr.grown gr).rd h fun ad e e2 => hg (by injection e with e; rw [e2, ← e])
    · exact h.keep (Fr.grown gr).size fun ad _ hl => k4 _ hl
theorem rep_get {x : Int} {n i : Nat} (h : i < n) : (iL (List.replicate n x))[i]? = some (.int .i64 x) := iL_get (by simp [h])
set_option maxRecDepth 100000 in
set_option maxHeartbeats 4000000 in
theorem law_close (A : Option Addr) (n c : Nat) (xs : List Int) (At : Option Addr) (N ct : Nat) (vs : List Value) (tb : List (List Int)) (w : World) (h : Sl w 1 8 fI Okn A n c xs) (ht : TabO w At N ct vs tb) (hn : n ≤ 1048576) :
    Calls Try.prog 3 #[.slice A n c, .slice At N ct] w fun e w' => e = .returned (.bool true) ∧ Below w.heap.size w w' := by
  have hmf : ∀ (fn : Fn) (first cap : Array Value) (w : World), (Instr.makeFunc fn first cap).run Try.prog w = .ok (.func fn first cap) w := fun _ _ _ _ => rfl
  have hr0 := h.rd
  rw [fI_flat] at hr0
  have X := Mm.hid hr0
  have T := Mm.hid ht.tab
  have hcap : n ≤ c := h.cap
  have hctp : N ≤ ct := ht.cap
  have hN := ht.len
  have hxl := h.len
  obtain ⟨U, hU⟩ : ∃ U, U = xs ++ tb.flatten := ⟨_, rfl⟩
  have HUl : Hid (U.length ≤ 1099512676352) := by
    show _ ≤ _
    have h1 := flat_le 1048576 tb fun ys hy => (ht.row ys hy).1
    have h2 := Nat.mul_le_mul_right 1048576 hN
    rw [ht.tab.len] at h1
    rw [hU, List.length_append, hxl]
    omega
  have HX : Hid (∀ x ∈ xs, x ∈ U) := fun x hx => by rw [hU]; exact List.mem_append_left _ hx
  have HT : Hid (∀ x ∈ tb.flatten, x ∈ U) := fun x hx => by rw [hU]; exact List.mem_append_right _ hx
  have HO : Hid (∀ x ∈ U, Okn x) := fun x hx => by
    rw [hU] at hx
    rcases List.mem_append.1 hx with h1 | h1
    · exact h.good x h1
    · obtain ⟨ys, hy, hxy⟩ := List.mem_flatten.1 h1
      exact (ht.row ys hy).2 x hxy
  have HR : Hid (∀ ys ∈ tb, ys.length ≤ 1099511627776) := fun ys hy => by have := (ht.row ys hy).1; omega
  have HF : Hid (∀ x, (tabF tb x).length ≤ 1048576) := tabF_len fun ys hy => (ht.row ys hy).1
  have HXL : Hid (xs.length = n) := hxl
  clear h ht hr0 hxl hU
  have C1 := Mm.hid (rclose_any A n c xs At N ct vs tb U w X.out T.out HX.out HT.out (by have := HUl.out; omega) (by omega) (fun x => by have := HF.out x; omega) (by omega))
  go_enter Try.func3, Try.ntmps3
  go_wp2_with fail
  refine C1.out.mono ?_
  clear C1
  rintro e w1 ⟨A1, m, c1, A2, c2, L, rfl, hm1, hm2, hLm, hWL, O1⟩
  have WL := Mm.hid hWL
  have HLm := Mm.hid hLm
  clear hWL hLm
  have F1 := Mm.hid O1.out.fr
  have C2 := Mm.hid (rclose_any A n c xs none 0 0 [] [] xs w1 (F1.out.rd X.out fun _ _ h => h) (TabR.nil _) (fun _ h => h) (fun x h => by simp at h) (by rw [HXL.out]; omega) (by omega) (fun x => by rw [tabF_out (by simp; omega)]; exact Nat.zero_le _) (by omega))
  go_wp2_with fail
  refine C2.out.mono ?_
  clear C2
  rintro e w2 ⟨A3, m3, c3, A4, c4, L3, rfl, hm3, _, hLm3, hWL3, O2⟩
  have hL3 : L3 = puts [] xs := whole_const (fun x => tabF_out (by simp; omega)) hWL3
  subst hL3
  have HL3 := Mm.hid hLm3
  have ND : Hid (puts [] xs).Nodup := nodup_puts List.nodup_nil
  have h0U : ∀ y ∈ puts [] xs, y ∈ U := fun y hy => by
    rcases mem_puts.1 hy with h | h
    · simp at h
    · exact HX.out y h
  have hfU : ∀ x ∈ U, ∀ y ∈ tabF tb x, y ∈ U := fun x _ y hy => HT.out y (tabF_mem hy)
  have hmU : m ≤ U.length := by rw [← HLm.out]; exact WL.out.len ND.out h0U hfU
  have hm9 : m ≤ 1099512676352 := by have := HUl.out; omega
  have hm39 : m3 ≤ 1048576 := by
    rw [← hLm3]
    have := putsi_len_le [] xs
    have h0 : ([] : List Int).length = 0 := rfl
    rw [HXL.out] at this
    omega
  clear hWL3 hLm3
  have F2 := Mm.hid (F1.out.trans O2.out.fr fun _ _ h => h)
  have WA := Mm.hid (Rd.of_own (O2.out.fr.own O1.out.r1 fun _ _ h => h))
  have TU := Mm.hid (Rd.of_own (O2.out.fr.own O1.out.r2 fun _ _ h => h))
  have LO := Mm.hid (Rd.of_own O2.out.r1)
  have R1 := Mm.hid (rows_any At N ct vs tb w2 (T.out.fr F2.out) (by omega) HR.out)
  clear O1 O2 F1
  go_wp2_with fail
  refine R1.out.mono ?_
  clear R1
  rintro e w3 ⟨A5, c5, vs5, rfl, hc5, O3⟩
  obtain ⟨w3b, hw3b⟩ : ∃ w3b, w3.alloc (.cells #[.slice A5 N c5] 23) = w3b := ⟨_, rfl⟩
  obtain ⟨tx, htx⟩ : ∃ tx, w3.heap.size = tx := ⟨_, rfl⟩
  have B3 : Hid (Blk w3b tx 23 #[.slice A5 N c5]) := by show Blk _ _ _ _; rw [← hw3b, ← htx]; exact Blk.new w3 _ _
  have F3 : Hid (Fr (fun _ => False) w3 w3b) := by show Fr _ _ _; rw [← hw3b]; exact Fr.alloc (fun _ => False) w3 _
  obtain ⟨w3l, hw3l⟩ : ∃ w3l, w3b.alloc (.cells #[.slice A n c] 22) = w3l := ⟨_, rfl⟩
  have F3l : Hid (Fr (fun _ => False) w3b w3l) := by show Fr _ _ _; rw [← hw3l]; exact Fr.alloc (fun _ => False) w3b _
  have G3 : Hid (Fr (fun _ => False) w2 w3b) := (Fr.of_below O3.out.fr).trans F3.out fun _ _ h => h
  have G3l := Mm.hid (G3.out.trans F3l.out fun _ _ h => h)
  have T1 : Hid (TabR w3l (some ⟨w3b.heap.size, 0, none⟩) 1 [.slice A n c] [xs]) := by
    show TabR _ _ _ _ _
    rw [← hw3l]
    exact tab_one (G3.out.rd (F2.out.rd X.out fun _ _ h => h) fun _ _ h => h) hcap
  have R2 := Mm.hid (rows_any (some ⟨w3b.heap.size, 0, none⟩) 1 1 [.slice A n c] [xs] w3l T1.out (by omega) (fun ys hy => by rw [List.mem_singleton.1 hy, HXL.out]; omega))
  go_wp2_with fail
  refine R2.out.mono ?_
  clear R2 hw3l
  rintro e wt ⟨A6, c6, vs6, rfl, hc6, O4⟩
  have FT := Mm.hid (G3l.out.trans (Fr.of_below O4.out.fr) fun _ _ h => h)
  have WAt := Mm.hid (FT.out.rd WA.out fun _ _ h => h)
  have TUt := Mm.hid (FT.out.rd TU.out fun _ _ h => h)
  have LOt := Mm.hid (FT.out.rd LO.out fun _ _ h => h)
  have FWt := Mm.hid (F2.out.trans FT.out fun _ _ h => h)
  have Xt := Mm.hid (FWt.out.rd X.out fun _ _ h => h)
  have Tt := Mm.hid (T.out.fr FWt.out)
  have F3t := Mm.hid ((F3.out.trans F3l.out fun _ _ h => h).trans (Fr.of_below O4.out.fr) fun _ _ h => h)
  have O3t := Mm.hid (F3t.out.own O3.out.own fun _ _ h => h)
  have RTt := Mm.hid (O3.out.rows.fr F3t.out fun _ h => h.elim)
  have BXt := Mm.hid ((F3l.out.trans (Fr.of_below O4.out.fr) fun _ _ h => h).blk B3.out fun h => h)
  have O4t := Mm.hid O4.out.own
  have RFt := Mm.hid O4.out.rows
  clear WA TU LO O3 O4 F3 F3l G3 G3l T1 B3 F3t FT F2 X T hw3b htx
  obtain ⟨v6, hv6⟩ : ∃ v6, vs6[0]? = some v6 := ⟨_, List.getElem?_eq_getElem (by rw [RFt.out.len]; simp)⟩
  obtain ⟨gf, cf, rfl, hcf, _⟩ := RFt.out.row 0 v6 xs hv6 rfl
  obtain ⟨g6, cap6, hv, _, _, hg6, hcell, _⟩ := own_blk O4t.out (by omega)
  injection hv with e1 _ _
  subst e1
  have f6 : wt.cell? ⟨g6, 0, none⟩ = some (.slice (some ⟨gf, 0, none⟩) n cf) := by have := hcell 0 _ hv6; rwa [HXL.out] at this
  have ncf : n ≤ cf := by rw [HXL.out] at hcf; omega
  have XF := Mm.hid ((RFt.out.tab O4t.out).at (i := 0) (xs := xs) rfl)
  obtain ⟨ab, hab⟩ : ∃ ab, wt.heap.size = ab := ⟨_, rfl⟩
  obtain ⟨wA, hwA⟩ : ∃ wA, wt.alloc (.cells #[.slice none 0 0] 22) = wA := ⟨_, rfl⟩
  have BA : Hid (Blk wA ab 22 #[.slice none 0 0]) := by show Blk _ _ _ _; rw [← hwA, ← hab]; exact Blk.new wt _ _
  have FA : Hid (Below ab wt wA) := by show Below _ _ _; rw [← hwA, ← hab]; exact (Below.refl _ _).alloc (Nat.le_refl _) _
  have HSA : Hid (wA.heap.size = ab + 1) := by show _ = _; rw [← hwA, ← hab]; simp
  have f7 : wA.cell? ⟨g6, 0, none⟩ = some (.slice (some ⟨gf, 0, none⟩) n cf) := by
    rw [← hwA]
    exact (Fr.alloc (fun _ => False) wt _).cell f6 fun h => h
  have XA : Hid (Rd wA (some ⟨gf, 0, none⟩) n 1 (iL xs)) := by
    obtain ⟨ad, A', c', e, hc, _, r⟩ := XF.out
    injection e with e
    subst e
    rw [show (⟨g6, 0, none⟩ : Addr).add 0 = ⟨g6, 0, none⟩ from rfl, f6] at hc
    injection hc with hc
    injection hc with h1 _ _
    rw [← h1, HXL.out] at r
    show Rd _ _ _ _ _
    rw [← hwA]
    exact r.alloc _
  have G6 : Hid (g6 < ab) := by show _ < _; rw [← hab]; exact hg6
  have HC6 := Mm.hid f6
  have GFR : Hid (∀ W, Below ab wt W → W.cell? ⟨g6, 0, none⟩ = some (.slice (some ⟨gf, 0, none⟩) n cf) ∧ Rd W (some ⟨gf, 0, none⟩) n 1 (iL xs)) := fun W hB => by
    rw [← hab] at hB
    refine ⟨(Fr.of_below hB).cell HC6.out fun h => h, ?_⟩
    obtain ⟨ad, A', c', e, hc, _, r⟩ := XF.out
    injection e with e
    subst e
    rw [show (⟨g6, 0, none⟩ : Addr).add 0 = ⟨g6, 0, none⟩ from rfl, HC6.out] at hc
    injection hc with hc
    injection hc with h1 _ _
    rw [← h1, HXL.out] at r
    exact r.below hB
  clear hcell hv6 hcf XF f6 hg6
  have NX1 := nx_next wt wA ab tx ab A5 N c5 vs5 tb (.slice none 0 0) [] U (RTt.out.tab O3t.out) BXt.out (Nat.le_of_eq hab) (by rw [HSA.out]; omega) FA.out.size (fun k hl => FA.out.block k (by omega)) (fun k e => nomatch e) (by rw [HSA.out]; omega) (by omega) (by have := HUl.out; simp only [List.length_nil]; omega) HO.out
  have CI1 := Mm.hid (closei_any 14 #[.pointer (some ⟨ab, 0, none⟩), .pointer (some ⟨tx, 0, none⟩)] (enters_of Try.func14 (by kernel_rfl) rfl) (tabF tb) U (NI wA ab ab (.slice none 0 0) []) (ni_inv wA ab ab (.slice none 0 0) [] (by rw [HSA.out]; omega)) NX1 HO.out hfU (fun x _ => by have := HUl.out; have := HF.out x; omega) xs HX.out (by rw [HXL.out]; omega) (some ⟨gf, 0, none⟩) n cf (fun k => k < wA.heap.size ∨ (Value.slice none 0 0).ownBlock = some k) wA XA.out ⟨.slice none 0 0, rfl, Nat.le_refl _, fun _ _ _ _ => rfl, BA.out, ⟨rfl, .inl ⟨rfl, rfl⟩⟩, fun k e => nomatch e⟩)
  clear NX1
  go_upto_region 8 with (go_at_call 15; refine CI1.out.mono ?_; rintro e w6 ⟨va, La, G, rfl, hwa, ra, hi, _, hva, hfa⟩)
  have hLa : La = L := hwa.uniq WL.out
  subst hLa
  rw [HLm.out] at ra
  obtain ⟨Aa, ca, rfl, hca, _, _⟩ := own_slice ra
  obtain ⟨v1, rfl, k1, k2, k3, k4, k5⟩ := hi
  rw [List.nil_append, HLm.out] at k4
  obtain ⟨Aq, cq, rfl, hcq, _, _⟩ := own_slice k4
  have B6 : Hid (Below ab wt w6) := by
    have h : Below ab wA w6 := ⟨hfa.os, hfa.tape, hfa.output, hfa.size, fun k hk => k2 k (by rw [HSA.out]; omega) (by omega) fun e => nomatch e⟩
    exact FA.out.trans h
  have RA := Mm.hid ra
  have hwAb : ab ≤ wA.heap.size := by rw [HSA.out]; omega
  have VA : Hid (∀ b, (Value.slice Aa m ca).ownBlock = some b → ab < b ∧ (Value.slice Aq m cq).ownBlock ≠ some b) := fun b hb => by
    have h1 := hva b hb
    have h2 := HSA.out
    exact ⟨by
      rcases Nat.lt_or_ge ab b with h | h
      · exact h
      · exact absurd (.inl (by omega)) h1, fun e => h1 (.inr e)⟩
  have K3 := Mm.hid k3
  have K4 := Mm.hid k4
  have e_ab : w6.cell? ⟨ab, 0, none⟩ = some (.slice Aq m cq) := k3.cell 0
  have hsz6 : ab < w6.heap.size := by have := k1; rw [HSA.out] at this; omega
  have E6 : Hid (∀ b, (Value.slice Aq m cq).ownBlock = some b → ab ≤ b) := fun b hb => (own_lt k4 hb).1
  clear hwa hva hfa k1 k2 k3 k4 k5 ra CI1 BA FA HSA XA f7 hwA
  go_wp2_with fail
  refine (samei_true _ _ _ _ _ _ _ (Rd.of_own RA.out) (WAt.out.below (by rw [hab]; exact B6.out)) hca hm1 (by omega)).mono ?_
  rintro e w7 ⟨rfl, d7, hw7⟩
  have D7 : Hid (Fr (fun _ => False) w6 w7) := by show Fr _ _ _; rw [hw7]; exact Fr.drewN (fun _ => False) _ _
  have e_ab7 : w7.cell? ⟨ab, 0, none⟩ = some (.slice Aq m cq) := D7.out.cell e_ab fun h => h
  have B7 : Hid (Below ab wt w7) := B6.out.trans (D7.out.below (fun _ h => h.elim) (by omega))
  clear hw7 e_ab B6
  go_wp2_with fail
  refine (samei_true _ _ _ _ _ _ _ (Rd.of_own (D7.out.own K4.out fun _ _ h => h)) (TUt.out.below (by rw [hab]; exact B7.out)) hcq hm2 (by omega)).mono ?_
  rintro e w8 ⟨rfl, d8, hw8⟩
  have D8 : Hid (Fr (fun _ => False) w6 w8) := by show Fr _ _ _; rw [hw8]; exact D7.out.trans (Fr.drewN (fun _ => False) _ _) fun _ _ h => h
  have B8 : Hid (Below ab wt w8) := by
    have h : Fr (fun _ => False) w7 w8 := by rw [hw8]; exact Fr.drewN (fun _ => False) _ _
    have h2 := D7.out.size
    exact B7.out.trans (h.below (fun _ h => h.elim) (by omega))
  have RA8 := Mm.hid (D8.out.own RA.out fun _ _ h => h)
  have K3' := Mm.hid (D8.out.blk K3.out fun h => h)
  have K4' := Mm.hid (D8.out.own K4.out fun _ _ h => h)
  have hsz8 : ab < w8.heap.size := by have := D8.out.size; omega
  obtain ⟨f8, X8⟩ := GFR.out w8 B8.out
  have NX2 := nx_next wt w8 ab tx ab A5 N c5 vs5 tb (.slice Aq m cq) La U (RTt.out.tab O3t.out) BXt.out (Nat.le_of_eq hab) hsz8 (by omega) (fun k hl => B8.out.block k (by omega)) (fun k e => by rw [hab]; exact E6.out k e) (by omega) (by omega) (by have := HUl.out; rw [HLm.out]; omega) HO.out
  have CI2 := Mm.hid (closei_any 14 #[.pointer (some ⟨ab, 0, none⟩), .pointer (some ⟨tx, 0, none⟩)] (enters_of Try.func14 (by kernel_rfl) rfl) (tabF tb) U (NI w8 ab ab (.slice Aq m cq) La) (ni_inv w8 ab ab (.slice Aq m cq) La hsz8) NX2 HO.out hfU (fun x _ => by have := HUl.out; have := HF.out x; omega) xs HX.out (by rw [HXL.out]; omega) (some ⟨gf, 0, none⟩) n cf (fun k => k < w8.heap.size ∨ (Value.slice Aq m cq).ownBlock = some k) w8 X8 ⟨.slice Aq m cq, rfl, Nat.le_refl _, fun _ _ _ _ => rfl, K3'.out, by rw [List.append_nil, HLm.out]; exact K4'.out, fun k e => .inl e⟩)
  clear NX2 hw8 e_ab7 D7 B7 RA K3 K4 X8
  go_upto_region 11 with (go_at_call 15; refine CI2.out.mono ?_; rintro e w9 ⟨vb, Lb, G, rfl, hwb, rb, hi, _, hvb, hfb⟩)
  have hLb : Lb = La := hwb.uniq WL.out
  subst hLb
  rw [HLm.out] at rb
  obtain ⟨Ab, cb, rfl, hcb, _, _⟩ := own_slice rb
  obtain ⟨v2, rfl, k1, k2, k3, k4, k5⟩ := hi
  have B9 : Hid (Below ab wt w9) := by
    have h : Below ab w8 w9 := ⟨hfb.os, hfb.tape, hfb.output, hfb.size, fun k hk => k2 k (by omega) (by omega) fun e => by have := E6.out k e; omega⟩
    exact B8.out.trans h
  have RA9 := Mm.hid (own_keep RA8.out fun b hb => k2 b (own_lt RA8.out hb).2 (by have := (VA.out b hb).1; omega) (VA.out b hb).2)
  have RB9 := Mm.hid rb
  have hb9' : ∀ k, (Value.slice Ab m cb).ownBlock = some k → w8.heap.size ≤ k ∧ k < w9.heap.size := fun k hk => own_lt rb hk
  have LA9 : Hid (∀ b, (Value.slice Aa m ca).ownBlock = some b → b < w8.heap.size) := fun b hb => (own_lt RA8.out hb).2
  have hs89 : w8.heap.size ≤ w9.heap.size := k1
  clear hwb hvb hfb k1 k2 k3 k4 k5 rb CI2 RA8 K3' K4' B8 D8
  obtain ⟨f9, X9⟩ := GFR.out w9 B9.out
  have CN := Mm.hid (closei_nil xs (fun x hx => HO.out x (HX.out x hx)) (by rw [HXL.out]; omega) (some ⟨gf, 0, none⟩) n cf w9 X9)
  clear X9 f8
  go_upto_region 12 with (go_at_call 15; refine CN.out.mono ?_; rintro e w10 ⟨Ac, mc, cc, rfl, hcc, _, h10⟩)
  have hmc : mc = m3 := by rw [← h10.out.1, HL3.out]
  subst hmc
  have D10 := Mm.hid h10.out.2.2
  have RC := Mm.hid h10.out.2.1
  have B10 : Hid (Below ab wt w10) := B9.out.trans (D10.out.below (fun _ h => h.elim) (by omega))
  have RA10 := Mm.hid (D10.out.own RA9.out fun _ _ h => h)
  have RB10 := Mm.hid (D10.out.own RB9.out fun _ _ h => h)
  have hsz10 : w9.heap.size ≤ w10.heap.size := D10.out.size
  have BW : Hid (∀ W, Fr (fun _ => False) w10 W → Below ab wt W) := fun W hf => B10.out.trans (hf.below (fun _ h => h.elim) (by omega))
  clear CN h10 RA9 RB9 B9 f9
  go_wp2_with fail
  refine (samei_true _ _ _ _ _ _ _ (Rd.of_own RA10.out) (WAt.out.below (by rw [hab]; exact B10.out)) hca hm1 (by omega)).mono ?_
  rintro e w11 ⟨rfl, d11, hw11⟩
  have D11 : Hid (Fr (fun _ => False) w10 w11) := by show Fr _ _ _; rw [hw11]; exact Fr.drewN (fun _ => False) _ _
  clear hw11
  go_wp2_with fail
  refine (samei_true _ _ _ _ _ _ _ (D11.out.rd (Rd.of_own RB10.out) fun _ _ h => h) (WAt.out.below (by rw [hab]; exact BW.out _ D11.out)) hcb hm1 (by omega)).mono ?_
  rintro e w12 ⟨rfl, d12, hw12⟩
  have D12 : Hid (Fr (fun _ => False) w10 w12) := by show Fr _ _ _; rw [hw12]; exact D11.out.trans (Fr.drewN (fun _ => False) _ _) fun _ _ h => h
  clear hw12 D11
  go_wp2_with fail
  refine (samei_true _ _ _ _ _ _ _ (D12.out.rd (Rd.of_own RC.out) fun _ _ h => h) (LOt.out.below (by rw [hab]; exact BW.out _ D12.out)) hcc hm3 (by omega)).mono ?_
  rintro e w13 ⟨rfl, d13, hw13⟩
  have D13 : Hid (Fr (fun _ => False) w10 w13) := by show Fr _ _ _; rw [hw13]; exact D12.out.trans (Fr.drewN (fun _ => False) _ _) fun _ _ h => h
  clear hw13 D12
  have UNT : Hid (∀ W, Below ab wt W → Calls Try.prog 17 #[.slice A5 N c5, .slice At N ct] W fun e w' => e = .returned (.bool true) ∧ Hid (Fr (fun _ => False) W w')) := fun W hB => by
    rw [← hab] at hB
    exact unt_any _ A5 N c5 vs5 At ct vs tb W (Rd.of_own ((Fr.of_below hB).own O3t.out fun _ _ h => h)) (RTt.out.fr (Fr.of_below hB) fun _ h => h.elim) (Tt.out.below hB) (by omega) HR.out
  have UNF : Hid (∀ W, Below ab wt W → Calls Try.prog 17 #[.slice (some ⟨g6, 0, none⟩) 1 cap6, .slice (some ⟨W.heap.size, 0, none⟩) 1 1] (W.alloc (.cells #[.slice A n c] 22)) fun e w' => e = .returned (.bool true) ∧ Hid (Fr (fun _ => False) (W.alloc (.cells #[.slice A n c] 22)) w')) := fun W hB => by
    rw [← hab] at hB
    have hf := (Fr.of_below hB).trans (Fr.alloc (fun _ => False) W (.cells #[.slice A n c] 22)) fun _ _ h => h
    exact unt_any _ (some ⟨g6, 0, none⟩) 1 cap6 vs6 (some ⟨W.heap.size, 0, none⟩) 1 [.slice A n c] [xs] _ (Rd.of_own (hf.own O4t.out fun _ _ h => h)) (RFt.out.fr hf fun _ h => h.elim) (tab_one (Xt.out.below hB) hcap) (by omega) fun ys hy => by rw [List.mem_singleton.1 hy, HXL.out]; omega
  have B13 := Mm.hid (BW.out _ D13.out)
  have x13 : w13.cell? ⟨tx, 0, none⟩ = some (.slice A5 N c5) := by
    have h := B13.out
    rw [← hab] at h
    exact ((Fr.of_below h).blk BXt.out fun h => h).cell 0
  go_wp2_with fail
  refine (UNT.out _ B13.out).mono ?_
  rintro e w14 ⟨rfl, h14⟩
  have D14 := Mm.hid (D13.out.trans h14.out fun _ _ h => h)
  clear h14 D13 B13 x13
  go_wp2_with fail
  refine (UNF.out _ (BW.out _ D14.out)).mono ?_
  rintro e w15 ⟨rfl, h15⟩
  have D15 := Mm.hid ((D14.out.trans (Fr.alloc (fun _ => False) _ _) fun _ _ h => h).trans h15.out fun _ _ h => h)
  clear h15 D14
  go_wp2_with fail
  have TR0 : Hid (Tri ab (.slice Aa m ca) m (List.replicate 0 (-8) ++ Lb.drop 0) (.slice Ab m cb) m Lb (.slice Ac mc cc) mc (puts [] xs) w15) := by
    have hb9 : ∀ k, (Value.slice Ab m cb).ownBlock = some k → w8.heap.size ≤ k ∧ k < w9.heap.size := fun k hk => hb9' k hk
    have h : Tri ab (.slice Aa m ca) m Lb (.slice Ab m cb) m Lb (.slice Ac mc cc) mc (puts [] xs) w10 := by
      refine ⟨own_mono RA10.out ?_, own_mono RB10.out (by omega), own_mono RC.out (by omega), fun k h1 h2 => ?_, fun k h1 h2 => ?_, fun k h1 h2 => ?_⟩
      · exact hwAb
      · have := LA9.out k h1; have := (hb9 k h2).1; omega
      · have := LA9.out k h1; have := (own_lt RC.out h2).1; omega
      · have := (hb9 k h1).2; have := (own_lt RC.out h2).1; omega
    exact h.frn D15.out
  have B15 := Mm.hid (BW.out _ D15.out)
  have LB9 : Hid (Lb.length = m) := HLm.out
  have LC9 : Hid ((puts [] xs).length = mc) := HL3.out
  have hs15 : ab < w15.heap.size := by have := D15.out.size; omega
  clear RA10 RB10 RC BW B10 D15 D10 LA9 GFR VA E6
  generalize puts [] xs = L3 at *
  go_loopw [16] (fun iv wr => ∃ k : Nat, k ≤ m ∧ iv = .int .i64 (k : Nat) ∧ Hid (Tri ab (.slice Aa m ca) m (List.replicate k (-8) ++ Lb.drop k) (.slice Ab m cb) m Lb (.slice Ac mc cc) mc L3 wr ∧ Below ab wt wr)) (fun iv _ => m - (intOf iv).toNat)
  case atStart => exact ⟨0, Nat.zero_le _, rfl, TR0.out, B15.out⟩
  case round =>
    obtain ⟨k, hk, rfl, HQ⟩ := hrel
    clear TR0 B15
    by_cases hlt : k < m
    · obtain ⟨g, cap, hv, _, hg1, hg2, hcell, hfree⟩ := own_blk HQ.out.1.a (by omega)
      injection hv with e1 _ _
      subst e1
      obtain ⟨u, hu⟩ : ∃ u, (iL (List.replicate k (-8) ++ Lb.drop k))[k]? = some u := ⟨_, List.getElem?_eq_getElem (by rw [own_len HQ.out.1.a]; exact hlt)⟩
      have f1 := hcell k u hu
      have f2 := hfree k
      have NX : Hid (Tri ab (.slice (some ⟨g, 0, none⟩) m ca) m (List.replicate (k + 1) (-8) ++ Lb.drop (k + 1)) (.slice Ab m cb) m Lb (.slice Ac mc cc) mc L3 (wr.setCell ⟨g, k, none⟩ (.int .i64 (-8))) ∧ Below ab wt (wr.setCell ⟨g, k, none⟩ (.int .i64 (-8)))) := by
        have hset := own_set HQ.out.1.a k (.int .i64 (-8))
        rw [iL_set, rep_set _ (by rw [LB9.out]; exact hlt)] at hset
        have hf := Fr.setCell wr ⟨g, k, none⟩ (.int .i64 (-8))
        refine ⟨HQ.out.1.set hset (hf.mono fun j (e : j = g) => by rw [e]; rfl) fun j hj => .inl hj, HQ.out.2.trans (hf.below (fun j (e : j = g) => by omega) ?_)⟩
        have := HQ.out.2.size
        omega
      clear hcell hfree hu HQ
      go_wp2_with fail
      go_roundw
      case rel => exact ⟨k + 1, by omega, by go_num, NX⟩
      case measure => simp [intOf] <;> omega
    · have hkm : k = m := by omega
      subst hkm
      have TR1 : Hid (Tri ab (.slice Aa k ca) k (List.replicate k (-8)) (.slice Ab k cb) k Lb (.slice Ac mc cc) mc (List.replicate 0 (-10) ++ L3.drop 0) wr ∧ Below ab wt wr) := by
        have h := HQ.out
        rw [List.drop_of_length_le (by rw [LB9.out]; exact Nat.le_refl _), List.append_nil] at h
        exact h
      clear HQ
      go_wp2_with fail
      go_loopw [17] (fun iv wr => ∃ j : Nat, j ≤ mc ∧ iv = .int .i64 (j : Nat) ∧ Hid (Tri ab (.slice Aa k ca) k (List.replicate k (-8)) (.slice Ab k cb) k Lb (.slice Ac mc cc) mc (List.replicate j (-10) ++ L3.drop j) wr ∧ Below ab wt wr)) (fun iv _ => mc - (intOf iv).toNat)
      case atStart => exact ⟨0, Nat.zero_le _, rfl, TR1⟩
      case round =>
        obtain ⟨j, hj, rfl, HQ⟩ := hrel
        clear TR1
        by_cases hlt : j < mc
        · obtain ⟨g, cap, hv, _, hg1, hg2, hcell, hfree⟩ := own_blk HQ.out.1.c (by omega)
          injection hv with e1 _ _
          subst e1
          obtain ⟨u, hu⟩ : ∃ u, (iL (List.replicate j (-10) ++ L3.drop j))[j]? = some u := ⟨_, List.getElem?_eq_getElem (by rw [own_len HQ.out.1.c]; exact hlt)⟩
          have f1 := hcell j u hu
          have f2 := hfree j
          have NX : Hid (Tri ab (.slice Aa k ca) k (List.replicate k (-8)) (.slice Ab k cb) k Lb (.slice (some ⟨g, 0, none⟩) mc cc) mc (List.replicate (j + 1) (-10) ++ L3.drop (j + 1)) (wr.setCell ⟨g, j, none⟩ (.int .i64 (-10))) ∧ Below ab wt (wr.setCell ⟨g, j, none⟩ (.int .i64 (-10)))) := by
            have hset := own_set HQ.out.1.c j (.int .i64 (-10))
            rw [iL_set, rep_set _ (by rw [LC9.out]; exact hlt)] at hset
            have hf := Fr.setCell wr ⟨g, j, none⟩ (.int .i64 (-10))
            refine ⟨(HQ.out.1.rot.rot.set hset (hf.mono fun j (e : j = g) => by rw [e]; rfl) fun j hj => .inl hj).rot, HQ.out.2.trans (hf.below (fun j (e : j = g) => by omega) ?_)⟩
            have := HQ.out.2.size
            omega
          clear hcell hfree hu HQ
          go_wp2_with fail
          go_roundw
          case rel => exact ⟨j + 1, by omega, by go_num, NX⟩
          case measure => simp [intOf] <;> omega
        · have hjm : j = mc := by omega
          subst hjm
          have TR2 : Hid (Tri ab (.slice Aa k ca) (k + 0) (List.replicate (k + 0) (-8)) (.slice Ab k cb) k Lb (.slice Ac j cc) (j + 0) (List.replicate (j + 0) (-10)) wr ∧ Below ab wt wr) := by
            have h := HQ.out
            rw [List.drop_of_length_le (by rw [LC9.out]; exact Nat.le_refl _), List.append_nil] at h
            exact h
          clear HQ
          go_wp2_with fail
          go_loopw [18, 20, 21] (fun av cv iv wr => ∃ (i : Nat) (D1 : Option Addr) (e1 : Nat) (D2 : Option Addr) (e2 : Nat), i ≤ 9 ∧ iv = .int .i64 (i : Nat) ∧ av = .slice D1 (k + i) e1 ∧ k + i ≤ e1 ∧ cv = .slice D2 (j + i) e2 ∧ j + i ≤ e2 ∧ Hid (Tri ab (.slice D1 (k + i) e1) (k + i) (List.replicate (k + i) (-8)) (.slice Ab k cb) k Lb (.slice D2 (j + i) e2) (j + i) (List.replicate (j + i) (-10)) wr ∧ Below ab wt wr)) (fun _ _ iv _ => 9 - (intOf iv).toNat)
          case atStart => exact ⟨0, Aa, ca, Ac, cc, Nat.zero_le _, rfl, rfl, hca, rfl, hcc, TR2⟩
          case round =>
            obtain ⟨i, D1, e1, D2, e2, hi, rfl, rfl, he1, rfl, he2, HQ⟩ := hrel
            clear TR2
            by_cases hlt : i < 9
            · have HLa : Hid ((k + i + 1) * 8 ≤ 140737488355328) := by show _ ≤ _; omega
              have HLc : Hid ((j + i + 1) * 8 ≤ 140737488355328) := by show _ ≤ _; omega
              have HSa : Hid (∀ u ∈ (#[.int .i64 (-8)] : Array Value).toList, u.oneCell' = true) := by intro u hu; simp at hu; subst hu; rfl
              have HSc : Hid (∀ u ∈ (#[.int .i64 (-10)] : Array Value).toList, u.oneCell' = true) := by intro u hu; simp at hu; subst hu; rfl
              have R1 := Mm.hid HQ.out.1.a
              have SZ : Hid (ab ≤ wr.heap.size) := by show _ ≤ _; have := HQ.out.2.size; omega
              go_upto_region 27 with (at_builtin; go_must (refine wp_ape1 ab rfl (.tmp 120) (.tmp 121) 22 3 (.int .i64 0) 1 8 #[.int .i64 (-8)] rfl Try.underlying22 info3 rfl (by decide) (by decide) (.slice D1 (k + i) e1) (k + i) _ rfl rfl rfl HSa.out R1.out HQ.out.2 SZ.out HLa.out ?_; intro v1 wa k1 k2 k3 k4; obtain ⟨D3, e3, hv, he3, _, _⟩ := own_slice k1; subst hv; have K1 := Mm.hid k1; have K2 := Mm.hid k2; have K3 := Mm.hid k3; have K4 := Mm.hid (k4_of k4); clear k1 k2 k3 k4))
              have TA : Hid (Tri ab (.slice D3 (k + i + 1) e3) (k + i + 1) (List.replicate (k + i + 1) (-8)) (.slice Ab k cb) k Lb (.slice D2 (j + i) e2) (j + i) (List.replicate (j + i) (-10)) wa) := by
                refine HQ.out.1.set ?_ (Fr.grown K3.out) K4.out
                rw [List.replicate_succ', ← iL_snoc]
                exact K1.out
              have R2 := Mm.hid TA.out.c
              clear R1 SZ K1 K3 K4 HQ
              have SZ2 : Hid (ab ≤ wa.heap.size) := by show _ ≤ _; have := K2.out.size; omega
              go_wp2_with (at_builtin; go_must (refine wp_ape1 ab rfl (.tmp 123) (.tmp 124) 22 3 (.int .i64 0) 1 8 #[.int .i64 (-10)] rfl Try.underlying22 info3 rfl (by decide) (by decide) (.slice D2 (j + i) e2) (j + i) _ rfl rfl rfl HSc.out R2.out K2.out SZ2.out HLc.out ?_; intro v2 wb k1 k2 k3 k4; obtain ⟨D4, e4, hv, he4, _, _⟩ := own_slice k1; subst hv; have K1 := Mm.hid k1; have K2b := Mm.hid k2; have K3 := Mm.hid k3; have K4 := Mm.hid (k4_of k4); clear k1 k2 k3 k4))
              have NX : Hid (Tri ab (.slice D3 (k + (i + 1)) e3) (k + (i + 1)) (List.replicate (k + (i + 1)) (-8)) (.slice Ab k cb) k Lb (.slice D4 (j + (i + 1)) e4) (j + (i + 1)) (List.replicate (j + (i + 1)) (-10)) wb ∧ Below ab wt wb) := by
                refine ⟨(TA.out.rot.rot.set ?_ (Fr.grown K3.out) K4.out).rot, K2b.out⟩
                rw [← Nat.add_assoc, List.replicate_succ', ← iL_snoc]
                exact K1.out
              go_roundw
              case rel => exact ⟨i + 1, D3, e3, D4, e4, by omega, by go_num, rfl, he3, rfl, he4, NX⟩
              case measure => simp [intOf] <;> omega
            · have hi9 : i = 9 := by omega
              subst hi9
              have TR3 : Hid ((Tri ab (.slice D1 (k + 9) e1) (k + 9) (List.replicate (k + 9) (-8)) (.slice Ab k cb) (k + 0) (Lb ++ List.replicate 0 (-9)) (.slice D2 (j + 9) e2) (j + 9) (List.replicate (j + 9) (-10)) wr ∧ Below ab wt wr) ∧ Rd wr Ab k 1 (iL Lb)) := by
                refine ⟨⟨?_, HQ.out.2⟩, Rd.of_own HQ.out.1.b⟩
                rw [List.replicate_zero, List.append_nil]
                exact HQ.out.1
              have HBF : Hid (0 < k → ∃ g, Ab = some ⟨g, 0, none⟩) := fun hp => by
                obtain ⟨g, cap, e, _⟩ := own_blk HQ.out.1.b hp
                injection e with e _ _
                exact ⟨g, e⟩
              clear HQ
              go_wp2_with fail
              go_loopw [19, 22] (fun bv iv wr => ∃ (i : Nat) (D3 : Option Addr) (e3 : Nat), i ≤ 9 ∧ iv = .int .i64 (i : Nat) ∧ bv = .slice D3 (k + i) e3 ∧ k + i ≤ e3 ∧ Hid ((Tri ab (.slice D1 (k + 9) e1) (k + 9) (List.replicate (k + 9) (-8)) (.slice D3 (k + i) e3) (k + i) (Lb ++ List.replicate i (-9)) (.slice D2 (j + 9) e2) (j + 9) (List.replicate (j + 9) (-10)) wr ∧ Below ab wt wr) ∧ Rd wr Ab k 1 (iL Lb))) (fun _ iv _ => 9 - (intOf iv).toNat)
              case atStart => exact ⟨0, Ab, cb, Nat.zero_le _, rfl, rfl, hcb, TR3⟩
              case round =>
                obtain ⟨i, D3, e3, hi, rfl, rfl, he3, HQ⟩ := hrel
                clear TR3
                by_cases hlt : i < 9
                · have HLb : Hid ((k + i + 1) * 8 ≤ 140737488355328) := by show _ ≤ _; omega
                  have HSb : Hid (∀ u ∈ (#[.int .i64 (-9)] : Array Value).toList, u.oneCell' = true) := by intro u hu; simp at hu; subst hu; rfl
                  have R1 := Mm.hid HQ.out.1.1.b
                  have SZ : Hid (ab ≤ wr.heap.size) := by show _ ≤ _; have := HQ.out.1.2.size; omega
                  go_wp2_with (at_builtin; go_must (refine wp_ape1 ab rfl (.tmp 130) (.tmp 131) 22 3 (.int .i64 0) 1 8 #[.int .i64 (-9)] rfl Try.underlying22 info3 rfl (by decide) (by decide) (.slice D3 (k + i) e3) (k + i) _ rfl rfl rfl HSb.out R1.out HQ.out.1.2 SZ.out HLb.out ?_; intro v1 wa k1 k2 k3 k4; obtain ⟨D4, e4, hv, he4, _, _⟩ := own_slice k1; subst hv; have K1 := Mm.hid k1; have K2 := Mm.hid k2; have K3 := Mm.hid k3; have K4 := Mm.hid (k4_of k4); have K5 := Mm.hid k4; clear k1 k2 k3 k4))
                  have OB : Hid (wa.ownsRow ab 3 1 (.slice D4 (k + i + 1) e4) (k + i + 1) (iL (Lb ++ List.replicate (i + 1) (-9)))) := by
                    show World.ownsRow _ _ _ _ _ _ _
                    rw [List.replicate_succ', ← List.append_assoc, ← iL_snoc]
                    exact K1.out
                  have NX : Hid ((Tri ab (.slice D1 (k + 9) e1) (k + 9) (List.replicate (k + 9) (-8)) (.slice D4 (k + (i + 1)) e4) (k + (i + 1)) (Lb ++ List.replicate (i + 1) (-9)) (.slice D2 (j + 9) e2) (j + 9) (List.replicate (j + 9) (-10)) wa ∧ Below ab wt wa) ∧ Rd wa Ab k 1 (iL Lb)) :=
                    ⟨⟨(HQ.out.1.1.rot.set OB.out (Fr.grown K3.out) K4.out).rot.rot, K2.out⟩, rd_grow (i := i + 1) HQ.out.2 HBF.out OB.out LB9.out K3.out K5.out⟩
                  go_roundw
                  case rel => exact ⟨i + 1, by omega, by go_num, D4, e4, ⟨rfl, by omega, rfl⟩, he4, NX⟩
                  case measure => simp [intOf] <;> omega
                · have hi9 : i = 9 := by omega
                  subst hi9
                  obtain ⟨w16, hw16⟩ : ∃ w16, w16 = wr := ⟨_, rfl⟩
                  subst hw16
                  have RLa := Mm.hid (Rd.of_own HQ.out.1.1.a)
                  have RLc := Mm.hid (Rd.of_own HQ.out.1.1.c)
                  have BWx := Mm.hid HQ.out.1.2
                  have RBx := Mm.hid HQ.out.2
                  clear HQ
                  go_wp2_with fail
                  go_loopw [23] (fun iv wr => ∃ i : Nat, i ≤ k + 9 ∧ iv = .int .i64 (i : Nat) ∧ wr = w16) (fun iv _ => k + 9 - (intOf iv).toNat)
                  case atStart => exact ⟨0, Nat.zero_le _, rfl, rfl⟩
                  case round =>
                    obtain ⟨i, hi, rfl, hwr⟩ := hrel
                    rw [hwr]
                    clear hwr
                    by_cases hlt : i < k + 9
                    · obtain ⟨ad, rfl, _, f1⟩ := RLa.out.cell (rep_get hlt)
                      go_wp2_with fail
                      go_roundw
                      case rel => exact ⟨i + 1, by omega, by go_num, trivial⟩
                      case measure => simp [intOf] <;> omega
                    · have hie : i = k + 9 := by omega
                      subst hie
                      go_wp2_with fail
                      go_loopw [24] (fun iv wr => ∃ i : Nat, i ≤ j + 9 ∧ iv = .int .i64 (i : Nat) ∧ wr = w16) (fun iv _ => j + 9 - (intOf iv).toNat)
                      case atStart => exact ⟨0, Nat.zero_le _, rfl, rfl⟩
                      case round =>
                        obtain ⟨i, hi, rfl, hwr⟩ := hrel
                        rw [hwr]
                        clear hwr
                        by_cases hlt : i < j + 9
                        · obtain ⟨ad, rfl, _, f1⟩ := RLc.out.cell (rep_get hlt)
                          go_wp2_with fail
                          go_roundw
                          case rel => exact ⟨i + 1, by omega, by go_num, trivial⟩
                          case measure => simp [intOf] <;> omega
                        · have hie : i = j + 9 := by omega
                          subst hie
                          go_wp2_with fail
                          refine (samei_true _ _ _ _ _ _ _ RBx.out (WAt.out.below (by rw [hab]; exact BWx.out)) hcb hm1 (by omega)).mono ?_
                          rintro e w17 ⟨rfl, d17, hw17⟩
                          have D17 : Hid (Fr (fun _ => False) w16 w17) := by show Fr _ _ _; rw [hw17]; exact Fr.drewN (fun _ => False) _ _
                          clear hw17
                          have sz16 : ab ≤ w16.heap.size := by have := BWx.out.size; omega
                          have BW : Hid (∀ W, Fr (fun _ => False) w16 W → Below ab wt W) := fun W hf => BWx.out.trans (hf.below (fun _ h => h.elim) sz16)
                          have B17 := Mm.hid (BW.out _ D17.out)
                          have x17 : w17.cell? ⟨tx, 0, none⟩ = some (.slice A5 N c5) := by
                            have h := B17.out
                            rw [← hab] at h
                            exact ((Fr.of_below h).blk BXt.out fun h => h).cell 0
                          go_wp2_with fail
                          refine (UNT.out _ B17.out).mono ?_
                          rintro e w18 ⟨rfl, h18⟩
                          have D18 := Mm.hid (D17.out.trans h18.out fun _ _ h => h)
                          clear h18 D17 B17 x17
                          go_wp2_with fail
                          refine (UNF.out _ (BW.out _ D18.out)).mono ?_
                          rintro e w19 ⟨rfl, h19⟩
                          have D19 := Mm.hid ((D18.out.trans (Fr.alloc (fun _ => False) _ _) fun _ _ h => h).trans h19.out fun _ _ h => h)
                          have FE : Hid (Below w.heap.size w w19) := by
                            have h1 := FWt.out.below (B := w.heap.size) (fun _ h => h.elim) (Nat.le_refl _)
                            refine h1.trans ((BW.out _ D19.out).mono ?_)
                            have := h1.size
                            omega
                          clear h19 D18 D19
                          go_wp2_with fail
                          go_ret
                          exact ⟨rfl, FE.out⟩
end Go.Proofs.Ythjldlgmfplngaa

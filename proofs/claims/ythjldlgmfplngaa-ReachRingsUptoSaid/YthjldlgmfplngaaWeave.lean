/- Walk: a web of pairs. -/
import Derived.Test.YthjldlgmfplngaaNum
namespace Go.Proofs.Ythjldlgmfplngaa
open Go.RowKit Go.Mm Go.Maps Go.Reach Go.WideMaps
/-- a row's value, a row's numbers anew -/
def F1 (F : Bool × Nat → Value) (q : Bool × Nat) (u : Value) : Bool × Nat → Value := fun k => if k = q then u else F k
def E1 (W : Wb ByteArray) (q : Bool × Nat) (x : Nat) : Wb ByteArray := { W with E := fun k => if k = q then W.E k ++ [x] else W.E k }
theorem F1_same (F : Bool × Nat → Value) (q : Bool × Nat) (u : Value) : F1 F q u q = u := if_pos rfl
theorem F1_ne {F : Bool × Nat → Value} {q k : Bool × Nat} {u : Value} (h : k ≠ q) : F1 F q u k = F k := if_neg h
theorem E1_same (W : Wb ByteArray) (q : Bool × Nat) (x : Nat) : (E1 W q x).E q = W.E q ++ [x] := if_pos rfl
theorem E1_ne {W : Wb ByteArray} {q k : Bool × Nat} {x : Nat} (h : k ≠ q) : (E1 W q x).E k = W.E k := if_neg h
theorem link_two (W : Wb ByteArray) (a b : Nat) : W.link a b = E1 (E1 W (true, a) b) (false, b) a := by
  unfold Wb.link E1
  congr 1
  funext k
  show (if k = (true, a) then W.E k ++ [b] else if k = (false, b) then W.E k ++ [a] else W.E k) = (if k = (false, b) then (if k = (true, a) then W.E k ++ [b] else W.E k) ++ [a] else (if k = (true, a) then W.E k ++ [b] else W.E k))
  by_cases h1 : k = (true, a)
  · subst h1
    simp
  · by_cases h2 : k = (false, b)
    · subst h2; simp
    · simp [h1, h2]
theorem side_set {F : Bool × Nat → Value} {sd : Bool} {n i : Nat} {u : Value} : (side F sd n).set i u = side (F1 F (sd, i) u) sd n := by
  apply List.ext_getElem?
  intro j
  by_cases hj : j < n
  · rw [side_get hj]
    by_cases e : i = j
    · subst e
      rw [List.getElem?_set_self (by rw [side_len]; exact hj), F1_same]
    · rw [List.getElem?_set_ne e, side_get hj, F1_ne (by simp; exact fun h => e h.symm)]
  · rw [List.getElem?_eq_none (by rw [List.length_set, side_len]; omega), List.getElem?_eq_none (by rw [side_len]; omega)]
theorem side_other {F : Bool × Nat → Value} {sd sd' : Bool} {n i : Nat} {u : Value} (h : sd' ≠ sd) : side (F1 F (sd, i) u) sd' n = side F sd' n := by
  unfold side
  refine List.map_congr_left fun j _ => F1_ne ?_
  simp [h]
section
variable {base wb n : Nat} {v0 v1 v2 : Value} {F : Bool × Nat → Value} {W : Wb ByteArray} {w w' wa : World}
/-- a number more on a row -/
theorem WebB.push (h : WebB base wb n v0 v1 v2 F W w) (sd : Bool) {i x g c : Nat} {u : Value} (hi : i < n) (hv : (if sd then v1 else v2) = .slice (some ⟨g, 0, none⟩) n c)
    (o : wa.ownsRow base 3 1 u ((W.E (sd, i)).length + 1) (iN (W.E (sd, i)) ++ [.int .i64 (x : Nat)])) (gr : w.grownBy wa (F (sd, i)).ownBlock) (k4 : ∀ k, u.ownBlock = some k → (F (sd, i)).ownBlock = some k ∨ w.heap.size ≤ k) :
    WebB base wb n v0 v1 v2 (F1 F (sd, i) u) (E1 W (sd, i) x) (wa.setCell ⟨g, i, none⟩ u) ∧ Fr (WebG wb v0 v1 v2 F) w (wa.setCell ⟨g, i, none⟩ u) := by
  have fa : Fr (fun k => (F (sd, i)).ownBlock = some k) w wa := Fr.grown gr
  have fs := Fr.setCell wa ⟨g, i, none⟩ u
  have hrow := h.row (sd, i)
  -- the container
  have hcon : w.ownsRow base 22 1 (.slice (some ⟨g, 0, none⟩) n c) n (side F sd n) := by
    cases sd with
    | true => have := h.r1; rwa [show v1 = .slice (some ⟨g, 0, none⟩) n c from hv] at this
    | false => have := h.r2; rwa [show v2 = .slice (some ⟨g, 0, none⟩) n c from hv] at this
  have con1 := fa.own hcon fun b hb e => own_own_ne hcon hrow (by decide) hb e
  have gb : (Value.slice (some ⟨g, 0, none⟩) n c).ownBlock = some g := rfl
  have B1 := fa.blk h.box fun e => own_ne hrow h.box (by decide) e
  have N1 := fa.own h.nm fun b hb e => own_own_ne h.nm hrow (by decide) hb e
  have gbv : (if sd then v1 else v2).ownBlock = some g := by rw [hv]; rfl
  have hg12 : ∀ (sd' : Bool), sd' ≠ sd → (if sd' then v1 else v2).ownBlock ≠ some g := fun sd' hne e => by
    cases sd <;> cases sd' <;> simp at hne gbv e
    · exact h.ap12 g e gbv
    · exact h.ap12 g gbv e
  have cn := own_set con1 i u
  rw [side_set] at cn
  have R1 : ∀ k, k ≠ (sd, i) → wa.ownsRow base 3 1 (F k) (W.E k).length (iN (W.E k)) := fun k hk => fa.own (h.row k) fun b hb e => h.ap k (sd, i) b hk hb e
  refine ⟨⟨fs.blk B1 fun e : wb = g => own_ne hcon h.box (by decide) (e ▸ gb), h.len, fs.own N1 fun b hb (e : b = g) => own_own_ne N1 con1 (by decide) hb (e ▸ gb), ?_, ?_, fun k => ?_, fun k k' b hkk h1 h2 => ?_, h.ap12, fun k hk => ?_, h.ge⟩, ?_⟩
  · cases sd with
    | true => have e : v1 = _ := hv; rw [e]; exact cn
    | false =>
      rw [side_other (by decide)]
      exact fs.own (fa.own h.r1 fun b hb e => own_own_ne h.r1 hrow (by decide) hb e) fun b hb (e : b = g) => hg12 true (by decide) (e ▸ hb)
  · cases sd with
    | false => have e : v2 = _ := hv; rw [e]; exact cn
    | true =>
      rw [side_other (by decide)]
      exact fs.own (fa.own h.r2 fun b hb e => own_own_ne h.r2 hrow (by decide) hb e) fun b hb (e : b = g) => hg12 false (by decide) (e ▸ hb)
  · by_cases hk : k = (sd, i)
    · subst hk
      rw [F1_same, E1_same, List.length_append, List.length_singleton, ← iN_snoc]
      exact fs.own o fun b hb (e : b = g) => own_own_ne o con1 (by decide) hb (e ▸ gb)
    · rw [F1_ne hk, E1_ne hk]
      exact fs.own (R1 k hk) fun b hb (e : b = g) => own_own_ne (R1 k hk) con1 (by decide) hb (e ▸ gb)
  · by_cases hk : k = (sd, i)
    · subst hk
      rw [F1_same] at h1
      rw [F1_ne (Ne.symm hkk)] at h2
      rcases k4 b h1 with h1 | h1
      · exact h.ap _ _ b hkk h1 h2
      · have := (own_lt (h.row k') h2).2; omega
    · rw [F1_ne hk] at h1
      by_cases hk' : k' = (sd, i)
      · subst hk'
        rw [F1_same] at h2
        rcases k4 b h2 with h2 | h2
        · exact h.ap _ _ b hkk h1 h2
        · have := (own_lt (h.row k) h1).2; omega
      · rw [F1_ne hk'] at h2
        exact h.ap _ _ b hkk h1 h2
  · have hne : k ≠ (sd, i) := fun e => by subst e; simp at hk; omega
    rw [F1_ne hne, E1_ne hne]
    exact h.out k hk
  · refine (fa.mono (T := WebG wb v0 v1 v2 F) fun k e => .inr (.inr (.inr (.inr ⟨_, e⟩)))).trans fs fun k _ (e : k = g) => ?_
    subst e
    cases sd with
    | true => exact .inr (.inr (.inl gbv))
    | false => exact .inr (.inr (.inr (.inl gbv)))
end
theorem WvB.far {base ab am wb n : Nat} {v0 v1 v2 : Value} {F : Bool × Nat → Value} {W : Wb ByteArray} {w : World} (h : WvB base ab am wb n v0 v1 v2 F W w) {g t : Nat} {cs : Array Value} (hb : Blk w g t cs) (h1 : t ≠ 9) (h2 : t ≠ 22) (h3 : t ≠ 3) (h4 : t ≠ 87) (hg : g ≠ wb) : ¬ WvG ab am wb v0 v1 v2 F g := by
  rintro (e | e | e | e | e | e | ⟨q, e⟩)
  · exact blk_ne hb h.abox h4 e
  · exact h.map.ne_blk hb e.symm
  · exact hg e
  · exact own_ne h.web.nm hb h1 e
  · exact own_ne h.web.r1 hb h2 e
  · exact own_ne h.web.r2 hb h2 e
  · exact own_ne (h.web.row q) hb h3 e
theorem WvB.webne {base ab am wb n : Nat} {v0 v1 v2 : Value} {F : Bool × Nat → Value} {W : Wb ByteArray} {w : World} (h : WvB base ab am wb n v0 v1 v2 F W w) : ¬ WebG wb v0 v1 v2 F ab ∧ ¬ WebG wb v0 v1 v2 F am := by
  constructor
  · rintro (e | e | e | e | ⟨q, e⟩)
    · exact blk_ne h.abox h.web.box (by decide) e
    · exact own_ne h.web.nm h.abox (by decide) e
    · exact own_ne h.web.r1 h.abox (by decide) e
    · exact own_ne h.web.r2 h.abox (by decide) e
    · exact own_ne (h.web.row q) h.abox (by decide) e
  · rintro (e | e | e | e | ⟨q, e⟩)
    · exact h.map.ne_blk h.web.box e
    · exact h.map.ne_own h.web.nm e
    · exact h.map.ne_own h.web.r1 e
    · exact h.map.ne_own h.web.r2 e
    · exact h.map.ne_own (h.web.row q) e
theorem WvB.web_set {base ab am wb n : Nat} {v0 v1 v2 : Value} {F F' : Bool × Nat → Value} {W W' : Wb ByteArray} {w w' : World} (h : WvB base ab am wb n v0 v1 v2 F W w) (hw : WebB base wb n v0 v1 v2 F' W' w') (hf : Fr (WebG wb v0 v1 v2 F) w w') (hns : W'.ns = W.ns) : WvB base ab am wb n v0 v1 v2 F' W' w' :=
  ⟨hf.blk h.abox h.webne.1, by rw [hns]; exact h.map.fr hf h.webne.2, hw, h.ge⟩
def prs (ps : List Pr) : List (ByteArray × ByteArray) := ps.map fun p => (p.a, p.b)
theorem web_snoc {α : Type} [DecidableEq α] (ps : List (α × α)) (p : α × α) : web (ps ++ [p]) = (web ps).pair p := by simp [web]
/-- a web under way, so many pairs read -/
structure WeR (ps : List Pr) (w0 : World) (rb wb am ab : Nat) (j : Nat) (w : World) : Prop where mk ::
  out : ∃ n v0 v1 v2 F, WvB w0.heap.size ab am wb n v0 v1 v2 F (web (prs (ps.take j))) w ∧ n ≤ 2 * j ∧ (∀ k, ((web (prs (ps.take j))).E k).length ≤ j) ∧ Blk w rb 83 #[nilS, nilS, nilS] ∧ rb ≠ wb ∧ Fr (fun _ => False) w0 w ∧ w0.heap.size ≤ rb
theorem size83 : (Try.prog.info? 83).map (·.size) = some 3 := by kernel_rfl
theorem we_start (ps : List Pr) (w : World) : WeR ps w w.heap.size (w.heap.size + 1) (w.heap.size + 1 + 1) (w.heap.size + 1 + 1 + 1) 0 ((((w.alloc (.cells #[.slice none 0 0, .slice none 0 0, .slice none 0 0] 83)).alloc (.cells #[.slice none 0 0, .slice none 0 0, .slice none 0 0] 83)).alloc (.map #[] 0)).alloc (.cells #[.map (some (w.heap.size + 1 + 1))] 87)) := by
  have q0 := Blk.new w #[.slice none 0 0, .slice none 0 0, .slice none 0 0] 83
  obtain ⟨w1, h1⟩ : ∃ w1, w.alloc (.cells #[.slice none 0 0, .slice none 0 0, .slice none 0 0] 83) = w1 := ⟨_, rfl⟩
  have s1 : w1.heap.size = w.heap.size + 1 := by rw [← h1]; simp
  have f1 : Fr (fun _ => False) w w1 := h1 ▸ Fr.alloc (fun _ => False) w _
  rw [h1] at q0 ⊢
  have q1 := Blk.new w1 #[.slice none 0 0, .slice none 0 0, .slice none 0 0] 83
  obtain ⟨w2, h2⟩ : ∃ w2, w1.alloc (.cells #[.slice none 0 0, .slice none 0 0, .slice none 0 0] 83) = w2 := ⟨_, rfl⟩
  have s2 : w2.heap.size = w.heap.size + 1 + 1 := by rw [← h2]; simp [s1]
  have f2 : Fr (fun _ => False) w1 w2 := h2 ▸ Fr.alloc (fun _ => False) w1 _
  rw [h2] at q1 ⊢
  rw [s1] at q1
  have m2 := MapB.made (P := Try.prog) (kt := 9) (κ := κs) w2
  obtain ⟨w3, h3⟩ : ∃ w3, w2.alloc (.map #[] 0) = w3 := ⟨_, rfl⟩
  have s3 : w3.heap.size = w.heap.size + 1 + 1 + 1 := by rw [← h3]; simp [s2]
  have f3 : Fr (fun _ => False) w2 w3 := h3 ▸ Fr.alloc (fun _ => False) w2 _
  rw [h3] at m2 ⊢
  rw [s2] at m2
  have q3 := Blk.new w3 #[.map (some (w.heap.size + 1 + 1))] 87
  rw [s3] at q3
  have f4 := Fr.alloc (fun _ => False) w3 (.cells #[.map (some (w.heap.size + 1 + 1))] 87)
  have f14 := f2.trans (f3.trans f4 fun _ _ h => h) fun _ _ h => h
  refine ⟨0, nilS, nilS, nilS, fun _ => nilS, ⟨q3, (m2.fr f4 fun h => h).to fun _ => rfl, ⟨(f3.trans f4 fun _ _ h => h).blk q1 fun h => h, rfl, nil_row _ _, ⟨rfl, .inl ⟨rfl, rfl⟩⟩, ⟨rfl, .inl ⟨rfl, rfl⟩⟩, fun _ => ⟨rfl, .inl ⟨rfl, rfl⟩⟩, (fun _ _ _ _ h => nomatch h), (fun _ h => nomatch h), fun _ _ => ⟨rfl, rfl⟩, by omega⟩, by omega, by omega⟩, Nat.le_refl _, fun _ => Nat.le_refl _, f14.blk q0 fun h => h, by omega, f1.trans f14 fun _ _ h => h, Nat.le_refl _⟩
set_option maxRecDepth 100000 in
set_option maxHeartbeats 4000000 in
theorem woven_any (ps : List Pr) (A : Option Addr) (N c : Nat) (w : World) (hr : Rd w A N 2 (ps.flatMap fPr)) (hN : ps.length = N) (hs : Szs ps) (hl : N ≤ 2097152) :
    Calls Try.prog 53 #[.slice A N c] w fun e w' => ∃ n v0 v1 v2 F wb, e = .returned (.agg #[v0, v1, v2]) ∧ Hid (WebB w.heap.size wb n v0 v1 v2 F (web (prs ps)) w' ∧ n ≤ 2 * N ∧ (∀ k, ((web (prs ps)).E k).length ≤ N) ∧ Fr (fun _ => False) w w') := by
  have hmm := @run_makeMap Try.prog
  have hmf : ∀ (fn : Fn) (first cap : Array Value) (w : World), (Instr.makeFunc fn first cap).run Try.prog w = .ok (.func fn first cap) w := fun _ _ _ _ => rfl
  have R := Mm.hid hr
  have HN := Mm.hid hN
  have HS := Mm.hid hs
  clear hr hN hs
  go_enter Try.func53, Try.ntmps53
  have ST := Mm.hid (we_start ps w)
  go_wp2_with fail
  obtain ⟨rb, hrb⟩ : ∃ rb, w.heap.size = rb := ⟨_, rfl⟩
  obtain ⟨wb, hwb⟩ : ∃ wb, w.heap.size + 1 = wb := ⟨_, rfl⟩
  obtain ⟨am, ham⟩ : ∃ am, w.heap.size + 1 + 1 = am := ⟨_, rfl⟩
  obtain ⟨ab, hab⟩ : ∃ ab, w.heap.size + 1 + 1 + 1 = ab := ⟨_, rfl⟩
  have ST2 : Hid (∃ W, W = ((((w.alloc (.cells #[.slice none 0 0, .slice none 0 0, .slice none 0 0] 83)).alloc (.cells #[.slice none 0 0, .slice none 0 0, .slice none 0 0] 83)).alloc (.map #[] 0)).alloc (.cells #[.map (some am)] 87)) ∧ WeR ps w rb wb am ab 0 W) := by
    refine ⟨_, rfl, ?_⟩
    have h := ST.out
    rw [hab, ham, hwb] at h
    rw [← hrb]; exact h
  obtain ⟨W0, hW0, hB⟩ := ST2.out
  have ST3 := Mm.hid hB
  rw [hab, ham, hwb, ← hW0, hrb]
  clear ST ST2 hW0 hB hwb ham hab
  go_loopw [7, 8, 9, 14] (fun _ _ _ iv wr => ∃ j : Nat, j ≤ N ∧ iv = .int .i64 (j : Nat) ∧ Hid (WeR ps w rb wb am ab j wr)) (fun _ _ _ iv _ => N - (intOf iv).toNat)
  case atStart => exact ⟨0, Nat.zero_le _, rfl, ST3.out⟩
  case round =>
    obtain ⟨j, hj, rfl, HQ⟩ := hrel
    clear ST3
    by_cases hlt : j < N
    · obtain ⟨p, hp⟩ : ∃ p, ps[j]? = some p := ⟨_, List.getElem?_eq_getElem (by rw [HN.out]; exact hlt)⟩
      obtain ⟨n, v0, v1, v2, F, hV, hn, hE, hb, hrw, hf, hge⟩ := HQ.out.out
      obtain ⟨ad, rfl, _, f0, f1⟩ := rd_pr (hf.rd R.out fun _ _ h => h) HN.out hp
      have PA := Mm.hid (HS.out.a p (List.mem_of_getElem? hp))
      have PB := Mm.hid (HS.out.b p (List.mem_of_getElem? hp))
      have TK : Hid (web (prs (ps.take (j + 1))) = (web (prs (ps.take j))).pair (p.a, p.b)) := by
        show _ = _
        rw [take_snoc' hp, prs, List.map_append]
        exact web_snoc _ _
      have V := Mm.hid hV
      have HE := Mm.hid hE
      have HB := Mm.hid hb
      have HF := Mm.hid hf
      clear hV hE hb hf hp HQ
      generalize web (prs (ps.take j)) = W at *
      go_upto_region 7 with (fail)
      obtain ⟨q, hq⟩ : ∃ q, wr.heap.size = q := ⟨_, rfl⟩
      obtain ⟨w5, hw5⟩ : ∃ w5, wr.alloc (.cells #[.string p.a, .string p.b] 37) = w5 := ⟨_, rfl⟩
      have B5 : Hid (Blk w5 q 37 #[.string p.a, .string p.b]) := by show Blk _ _ _ _; rw [← hw5, ← hq]; exact Blk.new wr _ _
      have F5 : Hid (Fr (fun _ => False) wr w5) := by show Fr _ _ _; rw [← hw5]; exact Fr.alloc (fun _ => False) wr _
      have V5 := Mm.hid (V.out.fr F5.out)
      have qne : q ≠ wb := by have := V.out.web.box.lt; omega
      rw [hw5, hq]
      clear hw5 hq f0 f1
      have e0 : w5.cell? ⟨q, 0, none⟩ = some (.string p.a) := B5.out.cell 0
      have NC1 := Mm.hid (num_any w.heap.size ab am wb n v0 v1 v2 F W p.a w5 V5.out PA.out (by omega))
      go_upto_region 8 with (go_at_call 59; refine NC1.out.mono ?_; rintro e w6 ⟨rfl, n6, x0, x1, x2, hn6, h6⟩)
      have B6 := Mm.hid (h6.out.2.blk B5.out (V5.out.far B5.out (by decide) (by decide) (by decide) (by decide) qne))
      have e1 : w6.cell? ⟨q, 1, none⟩ = some (.string p.b) := B6.out.cell 1
      have NC2 := Mm.hid (num_any w.heap.size ab am wb n6 x0 x1 x2 F (W.add p.a) p.b w6 h6.out.1 PB.out (by omega))
      clear e0 NC1
      go_upto_region 9 with (go_at_call 59; refine NC2.out.mono ?_; rintro e w7 ⟨rfl, n7, y0, y1, y2, hn7, h7⟩)
      have V7 := Mm.hid h7.out.1
      have F7 : Hid (Fr (WvG ab am wb v0 v1 v2 F) w5 w6 ∧ Fr (WvG ab am wb x0 x1 x2 F) w6 w7) := ⟨h6.out.2, h7.out.2⟩
      have V6 := Mm.hid h6.out.1
      obtain ⟨ia, hia⟩ : ∃ ia, pos (W.add p.a).ns p.a = ia := ⟨_, rfl⟩
      obtain ⟨ib, hib⟩ : ∃ ib, pos ((W.add p.a).add p.b).ns p.b = ib := ⟨_, rfl⟩
      have HIA : Hid (pos ((W.add p.a).add p.b).ns p.a = ia) := by show _ = _; rw [Wb.pos_add _ _ (Wb.mem_add W p.a)]; exact hia
      have HIB := Mm.hid hib
      have hian : ia < n7 := by rw [← V7.out.web.len, ← HIA.out]; exact pos_lt (Wb.sub_add _ _ (Wb.mem_add W p.a))
      have hibn : ib < n7 := by rw [← V7.out.web.len, ← hib]; exact pos_lt (Wb.mem_add _ _)
      have HE7 : Hid (∀ k, (((W.add p.a).add p.b).E k).length ≤ j) := fun k => by rw [Wb.add_E, Wb.add_E]; exact HE.out k
      have HPR : Hid (((W.add p.a).add p.b).link ia ib = W.pair (p.a, p.b)) := by
        show _ = ((W.add p.a).add p.b).link (pos ((W.add p.a).add p.b).ns p.a) (pos ((W.add p.a).add p.b).ns p.b)
        rw [HIA.out, hib]
      rw [hia, hib]
      clear h6 h7 NC2 e1 B6 hia hib HIA HIB
      generalize hW2 : (W.add p.a).add p.b = W2 at *
      clear hW2
      obtain ⟨g1, c1, rfl, hc1, hg1, hg1', hcell1, hfree1⟩ := own_blk V7.out.web.r1 (by omega)
      obtain ⟨g2, c2, rfl, hc2, _, _, _, _⟩ := own_blk V7.out.web.r2 (by omega)
      obtain ⟨Aa, ca, hFa, hca, _, _⟩ := own_slice (V7.out.web.row (true, ia))
      obtain ⟨ma, hma⟩ : ∃ m, (W2.E (true, ia)).length = m := ⟨_, rfl⟩
      have hmaj : ma ≤ j := by rw [← hma]; exact HE7.out _
      rw [hma] at hFa hca
      have d1 : w7.cell? ⟨wb, 1, none⟩ = some (.slice (some ⟨g1, 0, none⟩) n7 c1) := V7.out.web.box.cell 1
      have d2 : w7.cell? ⟨g1, ia, none⟩ = some (.slice Aa ma ca) := by rw [← hFa]; exact hcell1 ia _ (side_get hian)
      obtain ⟨W9, hW9⟩ : ∃ W9, (w7.alloc (.cells #[.int .i64 (ib : Nat)] 3)).drew = W9 := ⟨_, rfl⟩
      have F9 : Hid (Fr (fun _ => False) w7 W9) := by show Fr _ _ _; rw [← hW9]; exact (Fr.alloc (fun _ => False) w7 _).trans (Fr.drew (fun _ => False) _) fun _ _ h => h
      have BX : Hid (Blk W9 w7.heap.size 3 #[.int .i64 (ib : Nat)]) := by show Blk _ _ _ _; rw [← hW9]; exact (Blk.new w7 _ _).keep rfl
      have V9 := Mm.hid (V7.out.fr F9.out)
      have R9 : Hid (W9.ownsRow w.heap.size 3 1 (.slice Aa ma ca) ma (iN (W2.E (true, ia)))) := by
        have h := V9.out.web.row (true, ia)
        rw [hFa, hma] at h
        exact h
      have C9 := Mm.hid V9.out.web.r1
      have SZ9 : Hid (w.heap.size ≤ W9.heap.size) := by show _ ≤ _; have := V9.out.web.box.lt; have := V9.out.web.ge; omega
      have HL9 : Hid ((ma + 1) * 8 ≤ 140737488355328) := by show _ ≤ _; omega
      have HS9 : Hid (∀ u ∈ (#[.int .i64 (ib : Nat)] : Array Value).toList, u.oneCell' = true) := by intro u hu; simp at hu; subst hu; rfl
      have HFa := Mm.hid hFa
      have HMa := Mm.hid hma
      have HW9 := Mm.hid hW9
      have hdn : wb ≠ w7.heap.size := Nat.ne_of_lt V7.out.web.box.lt
      have hdn' := hdn.symm
      have hgn : g1 ≠ w7.heap.size := Nat.ne_of_lt hg1'
      have hgn' := hgn.symm
      have d3 : (w7.alloc (.cells #[.int .i64 (ib : Nat)] 3)).cell? ⟨wb, 1, none⟩ = some (.slice (some ⟨g1, 0, none⟩) n7 c1) := (Fr.alloc (fun _ => False) w7 _).cell d1 fun h => h
      have d4 : (w7.alloc (.cells #[.int .i64 (ib : Nat)] 3)).cell? ⟨g1, ia, none⟩ = some (.slice Aa ma ca) := (Fr.alloc (fun _ => False) w7 _).cell d2 fun h => h
      clear hFa hma hW9 hcell1 hfree1
      go_cut [26] from 26 to 37 (fun _ wc => ∃ u : Value, Hid (WebB w.heap.size wb n7 y0 (.slice (some ⟨g1, 0, none⟩) n7 c1) (.slice (some ⟨g2, 0, none⟩) n7 c2) (F1 F (true, ia) u) (E1 W2 (true, ia) ib) wc ∧ Fr (WebG wb y0 (.slice (some ⟨g1, 0, none⟩) n7 c1) (.slice (some ⟨g2, 0, none⟩) n7 c2) F) w7 wc))
      case first =>
        go_region_law ((rw [HW9.out]; refine step_ape1 w.heap.size rfl (.tmp 33) (.tmp 35) 22 3 (.int .i64 0) 1 8 #[.int .i64 (ib : Nat)] w7.heap.size rfl Try.underlying22 info3 rfl (by decide) (by decide) (.slice Aa ma ca) ma _ rfl rfl BX.out rfl HS9.out R9.out SZ9.out HL9.out ?_; intro u wa k1 k3 k4; obtain ⟨A3, c3, hv, hc3, _, _⟩ := own_slice k1; subst hv; have con := (Fr.grown k3).own C9.out (fun b hb e => own_own_ne C9.out R9.out (by decide) hb e); obtain ⟨g', cap', hv', _, _, _, hc', hf'⟩ := own_blk con (by omega); injection hv' with hx1 _ hx2; injection hx1 with hx1; injection hx1 with hx1; subst hx1; subst hx2; have z1 : wa.cell? ⟨wb, 1, none⟩ = some (.slice (some ⟨g1, 0, none⟩) n7 c1) := ((Fr.grown k3).blk V9.out.web.box (fun e => own_ne R9.out V9.out.web.box (by decide) e)).cell 1; have z2 : wa.cell? ⟨g1, ia, none⟩ = some (.slice Aa ma ca) := (by rw [← HFa.out]; exact hc' ia _ (side_get hian)); have z3 : wa.frozen? ⟨g1, ia, none⟩ = false := hf' ia; have K1 := Mm.hid k1; have K3 := Mm.hid k3; have K4 := Mm.hid k4; clear k1 k3 k4 con hc' hf'))
        all_goals (
          have NX : Hid (WebB w.heap.size wb n7 y0 (.slice (some ⟨g1, 0, none⟩) n7 c1) (.slice (some ⟨g2, 0, none⟩) n7 c2) (F1 F (true, ia) (.slice A3 (ma + 1) c3)) (E1 W2 (true, ia) ib) (wa.setCell ⟨g1, ia, none⟩ (.slice A3 (ma + 1) c3)) ∧ Fr (WebG wb y0 (.slice (some ⟨g1, 0, none⟩) n7 c1) (.slice (some ⟨g2, 0, none⟩) n7 c2) F) w7 (wa.setCell ⟨g1, ia, none⟩ (.slice A3 (ma + 1) c3))) := by
            obtain ⟨hp1, hp2⟩ := V9.out.web.push true (x := ib) hian rfl (wa := wa) (u := .slice A3 (ma + 1) c3) (by rw [HMa.out]; exact K1.out) (by rw [HFa.out]; exact K3.out) (fun k hk => by
              rw [HFa.out]
              rcases K4.out with e | e
              · exact .inl (e ▸ hk)
              · rw [hk] at e; injection e with e; exact .inr (Nat.le_of_eq e.symm))
            exact ⟨hp1, (F9.out.mono (T := WebG wb y0 (.slice (some ⟨g1, 0, none⟩) n7 c1) (.slice (some ⟨g2, 0, none⟩) n7 c2) F) fun _ h => h.elim).trans hp2 fun _ _ h => h⟩
          clear z1 z2 z3 d1 d2 d3 d4
          go_wp2_with fail
          go_meet
          exact ⟨_, NX⟩)
      case rest =>
        obtain ⟨u9, h9⟩ := hcut
        have VC := Mm.hid (V7.out.web_set h9.out.1 h9.out.2 rfl)
        have FC := Mm.hid h9.out.2
        clear h9 V9 F9 BX R9 C9 HW9 HFa HMa d1 d2 d3 d4 HL9 HS9 SZ9 hdn hdn' hgn hgn'
        have HEC : Hid (((E1 W2 (true, ia) ib).E (false, ib)).length ≤ j) := by show _ ≤ _; rw [E1_ne (by simp)]; exact HE7.out _
        have HNS : Hid ((E1 (E1 W2 (true, ia) ib) (false, ib) ia) = W.pair (p.a, p.b)) := by show _ = _; rw [← link_two]; exact HPR.out
        have HEL : Hid (∀ k, ((E1 (E1 W2 (true, ia) ib) (false, ib) ia).E k).length ≤ j + 1) := fun k => by
          have h0 := HE7.out k
          by_cases h1 : k = (false, ib)
          · subst h1
            rw [E1_same, List.length_append, E1_ne (by simp)]
            simp; omega
          · rw [E1_ne h1]
            by_cases h2 : k = (true, ia)
            · subst h2
              rw [E1_same, List.length_append]
              simp; omega
            · rw [E1_ne h2]; omega
        have HEN : Hid ((E1 (E1 W2 (true, ia) ib) (false, ib) ia).ns = (E1 W2 (true, ia) ib).ns) := rfl
        generalize hW3 : E1 W2 (true, ia) ib = W3 at *
        generalize hF3 : F1 F (true, ia) u9 = F3 at *
        clear hW3 hF3
        obtain ⟨gx, cx, hvx, _, _, hg2', hcell2, hfree2⟩ := own_blk VC.out.web.r2 (by omega)
        injection hvx with hx1 _ hx2
        injection hx1 with hx1
        injection hx1 with hx1
        subst hx1
        obtain ⟨Ab, cb, hFb, hcb, _, _⟩ := own_slice (VC.out.web.row (false, ib))
        obtain ⟨mb, hmb⟩ : ∃ m, (W3.E (false, ib)).length = m := ⟨_, rfl⟩
        have hmbj : mb ≤ j := by rw [← hmb]; exact HEC.out
        rw [hmb] at hFb hcb
        have d1 : wc.cell? ⟨wb, 2, none⟩ = some (.slice (some ⟨g2, 0, none⟩) n7 c2) := VC.out.web.box.cell 2
        have d2 : wc.cell? ⟨g2, ib, none⟩ = some (.slice Ab mb cb) := by rw [← hFb]; exact hcell2 ib _ (side_get hibn)
        obtain ⟨W9, hW9⟩ : ∃ W9, (wc.alloc (.cells #[.int .i64 (ia : Nat)] 3)).drew = W9 := ⟨_, rfl⟩
        have F9 : Hid (Fr (fun _ => False) wc W9) := by show Fr _ _ _; rw [← hW9]; exact (Fr.alloc (fun _ => False) wc _).trans (Fr.drew (fun _ => False) _) fun _ _ h => h
        have BX : Hid (Blk W9 wc.heap.size 3 #[.int .i64 (ia : Nat)]) := by show Blk _ _ _ _; rw [← hW9]; exact (Blk.new wc _ _).keep rfl
        have V9 := Mm.hid (VC.out.fr F9.out)
        have R9 : Hid (W9.ownsRow w.heap.size 3 1 (.slice Ab mb cb) mb (iN (W3.E (false, ib)))) := by
          have h := V9.out.web.row (false, ib)
          rw [hFb, hmb] at h
          exact h
        have C9 := Mm.hid V9.out.web.r2
        have SZ9 : Hid (w.heap.size ≤ W9.heap.size) := by show _ ≤ _; have := V9.out.web.box.lt; have := V9.out.web.ge; omega
        have HL9 : Hid ((mb + 1) * 8 ≤ 140737488355328) := by show _ ≤ _; omega
        have HS9 : Hid (∀ u ∈ (#[.int .i64 (ia : Nat)] : Array Value).toList, u.oneCell' = true) := by intro u hu; simp at hu; subst hu; rfl
        have HFb := Mm.hid hFb
        have HMb := Mm.hid hmb
        have HW9 := Mm.hid hW9
        have hdn : wb ≠ wc.heap.size := Nat.ne_of_lt VC.out.web.box.lt
        have hdn' := hdn.symm
        have hgn : g2 ≠ wc.heap.size := Nat.ne_of_lt hg2'
        have hgn' := hgn.symm
        have d3 : (wc.alloc (.cells #[.int .i64 (ia : Nat)] 3)).cell? ⟨wb, 2, none⟩ = some (.slice (some ⟨g2, 0, none⟩) n7 c2) := (Fr.alloc (fun _ => False) wc _).cell d1 fun h => h
        have d4 : (wc.alloc (.cells #[.int .i64 (ia : Nat)] 3)).cell? ⟨g2, ib, none⟩ = some (.slice Ab mb cb) := (Fr.alloc (fun _ => False) wc _).cell d2 fun h => h
        clear hFb hmb hW9 hcell2 hfree2
        have PU : Hid (∀ (wa : World) (u : Value), wa.ownsRow w.heap.size 3 1 u (mb + 1) (iN (W3.E (false, ib)) ++ [.int .i64 (ia : Nat)]) → W9.grownBy wa (Value.slice Ab mb cb).ownBlock → (∀ k, u.ownBlock = some k → (Value.slice Ab mb cb).ownBlock = some k ∨ W9.heap.size ≤ k) → WebB w.heap.size wb n7 y0 (.slice (some ⟨g1, 0, none⟩) n7 c1) (.slice (some ⟨g2, 0, none⟩) n7 c2) (F1 F3 (false, ib) u) (E1 W3 (false, ib) ia) (wa.setCell ⟨g2, ib, none⟩ u) ∧ Fr (WebG wb y0 (.slice (some ⟨g1, 0, none⟩) n7 c1) (.slice (some ⟨g2, 0, none⟩) n7 c2) F3) W9 (wa.setCell ⟨g2, ib, none⟩ u)) := fun wa u ko kg k4 => V9.out.web.push (v1 := (.slice (some ⟨g1, 0, none⟩) n7 c1)) (v2 := (.slice (some ⟨g2, 0, none⟩) n7 c2)) false (x := ia) hibn rfl (by rw [HMb.out]; exact ko) (by rw [HFb.out]; exact kg) (by rw [HFb.out]; exact k4)
        have MKN : Hid (∀ (wz : World) (u : Value), WebB w.heap.size wb n7 y0 (.slice (some ⟨g1, 0, none⟩) n7 c1) (.slice (some ⟨g2, 0, none⟩) n7 c2) (F1 F3 (false, ib) u) (E1 W3 (false, ib) ia) wz → Fr (WebG wb y0 (.slice (some ⟨g1, 0, none⟩) n7 c1) (.slice (some ⟨g2, 0, none⟩) n7 c2) F3) W9 wz → WeR ps w rb wb am ab (j + 1) wz) := fun wz u hp1 hp2 => by
          have hp3 : Fr (WebG wb y0 (.slice (some ⟨g1, 0, none⟩) n7 c1) (.slice (some ⟨g2, 0, none⟩) n7 c2) F3) wc wz := (F9.out.mono (T := WebG wb y0 (.slice (some ⟨g1, 0, none⟩) n7 c1) (.slice (some ⟨g2, 0, none⟩) n7 c2) F3) fun _ h => h.elim).trans hp2 fun _ _ h => h
          have hV := VC.out.web_set hp1 hp3 HEN.out
          have hb8 : Blk wz rb 83 #[nilS, nilS, nilS] := by
            have b5 := F5.out.blk HB.out fun h => h
            have b6 := F7.out.1.blk b5 (V5.out.far b5 (by decide) (by decide) (by decide) (by decide) hrw)
            have b7 := F7.out.2.blk b6 (V6.out.far b6 (by decide) (by decide) (by decide) (by decide) hrw)
            have b8 := FC.out.blk b7 fun e => V7.out.far b7 (by decide) (by decide) (by decide) (by decide) hrw (.inr (.inr e))
            exact hp3.blk b8 fun e => VC.out.far b8 (by decide) (by decide) (by decide) (by decide) hrw (.inr (.inr e))
          have hfz : Fr (fun _ => False) w wz := by
            have q1 := HF.out.trans F5.out fun _ _ h => h
            have q2 : Fr (fun _ => False) w w6 := q1.trans F7.out.1 fun k hk e => absurd (V5.out.glt k e).1 (Nat.not_le.2 hk)
            have q3 : Fr (fun _ => False) w w7 := q2.trans F7.out.2 fun k hk e => absurd (V6.out.glt k e).1 (Nat.not_le.2 hk)
            have q4 : Fr (fun _ => False) w wc := q3.trans FC.out fun k hk e => absurd (V7.out.web.glt k e).1 (Nat.not_le.2 hk)
            exact q4.trans hp3 fun k hk e => absurd (VC.out.web.glt k e).1 (Nat.not_le.2 hk)
          have hn2 : n7 ≤ 2 * (j + 1) := by omega
          refine WeR.mk ⟨n7, y0, (.slice (some ⟨g1, 0, none⟩) n7 c1), (.slice (some ⟨g2, 0, none⟩) n7 c2), F1 F3 (false, ib) u, ?_, hn2, ?_, hb8, hrw, hfz, hge⟩
          · rw [TK.out, ← HNS.out]; exact hV
          · rw [TK.out, ← HNS.out]; exact HEL.out
        go_wp2_with fail
        go_region_law ((rw [HW9.out]; refine step_ape1 w.heap.size rfl (.tmp 45) (.tmp 47) 22 3 (.int .i64 0) 1 8 #[.int .i64 (ia : Nat)] wc.heap.size rfl Try.underlying22 info3 rfl (by decide) (by decide) (.slice Ab mb cb) mb _ rfl rfl BX.out rfl HS9.out R9.out SZ9.out HL9.out ?_; intro u wa k1 k3 k4; obtain ⟨A3, c3, hv, hc3, _, _⟩ := own_slice k1; subst hv; have con := (Fr.grown k3).own C9.out (fun b hb e => own_own_ne C9.out R9.out (by decide) hb e); obtain ⟨g', cap', hv', _, _, _, hc', hf'⟩ := own_blk con (by omega); injection hv' with hx1 _ hx2; injection hx1 with hx1; injection hx1 with hx1; subst hx1; subst hx2; have z1 : wa.cell? ⟨wb, 2, none⟩ = some (.slice (some ⟨g2, 0, none⟩) n7 c2) := ((Fr.grown k3).blk V9.out.web.box (fun e => own_ne R9.out V9.out.web.box (by decide) e)).cell 2; have z2 : wa.cell? ⟨g2, ib, none⟩ = some (.slice Ab mb cb) := (by rw [← HFb.out]; exact hc' ib _ (side_get hibn)); have z3 : wa.frozen? ⟨g2, ib, none⟩ = false := hf' ib; have K1 := Mm.hid k1; have K3 := Mm.hid k3; have K4 := Mm.hid k4; clear k1 k3 k4 con hc' hf'))
        all_goals (
          have NX : Hid (WeR ps w rb wb am ab (j + 1) (wa.setCell ⟨g2, ib, none⟩ (.slice A3 (mb + 1) c3))) := by
            obtain ⟨hp1, hp2⟩ := PU.out wa (.slice A3 (mb + 1) c3) K1.out K3.out (fun k hk => by
              rcases K4.out with e | e
              · exact .inl (e ▸ hk)
              · rw [hk] at e; injection e with e; exact .inr (Nat.le_of_eq e.symm))
            exact MKN.out _ _ hp1 hp2
          clear z1 z2 z3 d1 d2 d3 d4
          go_wp2_with fail
          go_roundw
          case rel => exact ⟨j + 1, by omega, by go_num, NX⟩
          case measure => simp [intOf] <;> omega)
    · have hje : j = N := by omega
      subst hje
      have hty : ps.take j = ps := List.take_of_length_le (by rw [HN.out]; exact Nat.le_refl _)
      obtain ⟨n, v0, v1, v2, F, hV, hn, hE, hb, hrw, hf, hge⟩ := HQ.out.out
      rw [hty] at hV hE
      have V := Mm.hid hV.web
      have HE := Mm.hid hE
      have HF := Mm.hid hf
      have HB := Mm.hid hb
      obtain ⟨A0, c0, rfl, hc0, _, _⟩ := own_slice hV.web.nm
      obtain ⟨A1, c1, rfl, hc1, _, _⟩ := own_slice hV.web.r1
      obtain ⟨A2, c2, rfl, hc2, _, _⟩ := own_slice hV.web.r2
      have d0 : wr.cell? ⟨wb, 0, none⟩ = some (.slice A0 n c0) := hV.web.box.cell 0
      have d1 : wr.cell? ⟨wb, 1, none⟩ = some (.slice A1 n c1) := hV.web.box.cell 1
      have d2 : wr.cell? ⟨wb, 2, none⟩ = some (.slice A2 n c2) := hV.web.box.cell 2
      have z0 : wr.cell? ⟨rb, 0, none⟩ = some (.slice none 0 0) := hb.cell 0
      have z1 : wr.cell? ⟨rb, 1, none⟩ = some (.slice none 0 0) := hb.cell 1
      have z2 : wr.cell? ⟨rb, 2, none⟩ = some (.slice none 0 0) := hb.cell 2
      have y0 : wr.frozen? ⟨rb, 0, none⟩ = false := hb.free 0
      have y1 : wr.frozen? ⟨rb, 1, none⟩ = false := hb.free 1
      have y2 : wr.frozen? ⟨rb, 2, none⟩ = false := hb.free 2
      have nrb : ¬ WebG wb (.slice A0 n c0) (.slice A1 n c1) (.slice A2 n c2) F rb := fun e => hV.far hb (by decide) (by decide) (by decide) (by decide) hrw (.inr (.inr e))
      have FE : Hid (∃ n' v0 v1 v2 F wb, Ending.returned (.agg #[.slice A0 n c0, .slice A1 n c1, .slice A2 n c2]) = Ending.returned (.agg #[v0, v1, v2]) ∧ Hid (WebB w.heap.size wb n' v0 v1 v2 F (web (prs ps)) (((wr.setCell ⟨rb, 0, none⟩ (.slice A0 n c0)).setCell ⟨rb, 1, none⟩ (.slice A1 n c1)).setCell ⟨rb, 2, none⟩ (.slice A2 n c2)) ∧ n' ≤ 2 * j ∧ (∀ k, ((web (prs ps)).E k).length ≤ j) ∧ Fr (fun _ => False) w (((wr.setCell ⟨rb, 0, none⟩ (.slice A0 n c0)).setCell ⟨rb, 1, none⟩ (.slice A1 n c1)).setCell ⟨rb, 2, none⟩ (.slice A2 n c2)))) := by
        have s3 : Fr (fun k => k = rb) wr (((wr.setCell ⟨rb, 0, none⟩ (.slice A0 n c0)).setCell ⟨rb, 1, none⟩ (.slice A1 n c1)).setCell ⟨rb, 2, none⟩ (.slice A2 n c2)) := ((Fr.setCell wr ⟨rb, 0, none⟩ _).trans (Fr.setCell _ ⟨rb, 1, none⟩ _) fun _ _ e => e).trans (Fr.setCell _ ⟨rb, 2, none⟩ _) fun _ _ e => e
        refine ⟨n, _, _, _, F, wb, rfl, V.out.fr s3 fun k e => by rw [e]; exact nrb, hn, HE.out, HF.out.trans s3 fun k hk e => by omega⟩
      have QE : Hid (Blk (((wr.setCell ⟨rb, 0, none⟩ (.slice A0 n c0)).setCell ⟨rb, 1, none⟩ (.slice A1 n c1)).setCell ⟨rb, 2, none⟩ (.slice A2 n c2)) rb 83 #[.slice A0 n c0, .slice A1 n c1, .slice A2 n c2]) := ((HB.out.set 0 _).set 1 _).set 2 _
      clear hV hE hb hf hty HQ nrb
      go_wp2_with fail
      exact bodyPost_ret (results_cell_row (p := 2) (ty := 83) rfl _ _ rb 83 #[.slice A0 n c0, .slice A1 n c1, .slice A2 n c2] (0, 0) _ rfl QE.out Try.underlying83 rfl size83) rfl FE.out
end Go.Proofs.Ythjldlgmfplngaa

/- Walk: lines: the names that each name leads to, in a map of lists. -/
import Derived.Test.YthjldlgmfplngaaClose
import Derived.Test.YthjldlgmfplngaaRows2
import Derived.Deep.RegionLaw
namespace Go.Proofs.Ythjldlgmfplngaa
open Go.RowKit Go.Mm Go.Maps Go.Reach Go.WideMaps
/-- a pair, and its cells -/
structure Pr where
  a : ByteArray
  b : ByteArray
def fPr (p : Pr) : List Value := [.string p.a, .string p.b]
theorem fPr_len (p : Pr) : (fPr p).length = 2 := rfl
/-- the names that a name leads to -/
def line (ps : List Pr) (x : ByteArray) : List ByteArray := (ps.filter fun p => decide (p.a = x)).map Pr.b
theorem line_snoc (ps : List Pr) (p : Pr) (x : ByteArray) : line (ps ++ [p]) x = if x = p.a then line ps x ++ [p.b] else line ps x := by
  unfold line
  rw [List.filter_append, List.map_append]
  by_cases h : p.a = x
  · simp [h]
  · rw [if_neg (fun e => h e.symm)]; simp [h]
theorem line_len (ps : List Pr) (x : ByteArray) : (line ps x).length ≤ ps.length := by
  unfold line; rw [List.length_map]; exact List.length_filter_le _ _
theorem mem_line {ps : List Pr} {x y : ByteArray} : y ∈ line ps x ↔ ∃ p ∈ ps, p.a = x ∧ p.b = y := by
  unfold line; simp [List.mem_map, List.mem_filter, and_assoc]
theorem add_one (ad : Addr) (i : Nat) : ad.add (i + 1) = ⟨(ad.add i).block, (ad.add i).off + 1, none⟩ := by
  unfold Addr.add
  by_cases h : i = 0
  · subst h; simp
  · simp [h, Nat.add_assoc]
/-- a pair that is read -/
theorem rd_pr {w : World} {A : Option Addr} {n i : Nat} {ps : List Pr} {p : Pr} (h : Rd w A n 2 (ps.flatMap fPr)) (hl : ps.length = n) (hs : ps[i]? = some p) : ∃ ad, A = some ad ∧ ad.block < w.heap.size ∧ w.cell? (ad.add (i * 2)) = some (.string p.a) ∧ w.cell? ⟨(ad.add (i * 2)).block, (ad.add (i * 2)).off + 1, none⟩ = some (.string p.b) := by
  have hi := (List.getElem?_eq_some_iff.1 hs).1
  obtain ⟨ad, rfl, hb, hc⟩ := h.2 (by omega)
  have key : ∀ j u, j < 2 → (fPr p)[j]? = some u → w.cell? (ad.add (i * 2 + j)) = some u := fun j u hj hu => hc _ _ (by rw [flatMap_at fPr_len hs hj]; exact hu)
  exact ⟨ad, rfl, hb, key 0 _ (by decide) rfl, by rw [← add_one]; exact key 1 _ (by decide) rfl⟩
def nilS : Value := .slice none 0 0
/-- the map of lists: each row its own -/
structure LinB (base mb n : Nat) (M : ByteArray → Option Value) (ps : List Pr) (w : World) : Prop where
  map : MapB Try.prog 9 κs w mb n M
  row : ∀ x, w.ownsRow base 9 1 ((M x).getD nilS) (line ps x).length (strs (line ps x))
  apart : ∀ x y b, x ≠ y → ((M x).getD nilS).ownBlock = some b → ((M y).getD nilS).ownBlock ≠ some b
  ge : base ≤ mb
def LinG (mb : Nat) (M : ByteArray → Option Value) (k : Nat) : Prop := k = mb ∨ ∃ x, ((M x).getD nilS).ownBlock = some k
section
variable {base mb n : Nat} {M : ByteArray → Option Value} {ps : List Pr} {w w' : World} {T : Nat → Prop}
theorem LinB.fr (h : LinB base mb n M ps w) (hf : Fr T w w') (hT : ∀ k, T k → ¬ LinG mb M k) : LinB base mb n M ps w' :=
  ⟨h.map.fr hf fun ht => hT _ ht (.inl rfl), fun x => hf.own (h.row x) fun _ hb ht => hT _ ht (.inr ⟨x, hb⟩), h.apart, h.ge⟩
theorem LinB.glt (h : LinB base mb n M ps w) : ∀ k, LinG mb M k → base ≤ k ∧ k < w.heap.size := by
  rintro k (rfl | ⟨x, hk⟩)
  · exact ⟨h.ge, h.map.lt⟩
  · exact own_lt (h.row x) hk
/-- a name more on a list -/
theorem LinB.grow (h : LinB base mb n M ps w) {p : Pr} {v1 : Value} {wa wb : World}
    (r1 : wa.ownsRow base 9 1 v1 ((line ps p.a).length + 1) (strs (line ps p.a) ++ [.string p.b])) (g1 : w.grownBy wa ((M p.a).getD nilS).ownBlock) (k4 : ∀ k, v1.ownBlock = some k → ((M p.a).getD nilS).ownBlock = some k ∨ w.heap.size ≤ k)
    (m1 : MapB Try.prog 9 κs wb mb (n + 1) (upd M p.a v1)) (g2 : wa.grownBy wb (some mb)) :
    LinB base mb (n + 1) (upd M p.a v1) (ps ++ [p]) wb := by
  have f1 : Fr (fun k => ((M p.a).getD nilS).ownBlock = some k) w wa := Fr.grown g1
  have f2 : Fr (fun k => some mb = some k) wa wb := Fr.grown g2
  have hup : ∀ x, x ≠ p.a → (upd M p.a v1 x).getD nilS = (M x).getD nilS := fun x hx => by simp [upd, hx]
  have hsame : (upd M p.a v1 p.a).getD nilS = v1 := by simp [upd]
  have nmb : ∀ x, ((M x).getD nilS).ownBlock ≠ some mb := fun x => h.map.ne_own (h.row x)
  have v1mb : v1.ownBlock ≠ some mb := fun e => by
    rcases k4 _ e with q | q
    · exact nmb _ q
    · have := h.map.lt; omega
  refine ⟨m1, fun x => ?_, fun x y b hxy hx hy => ?_, h.ge⟩
  · by_cases hx : x = p.a
    · subst hx
      rw [hsame, line_snoc, if_pos rfl, ← strs_snoc, List.length_append]
      exact f2.own r1 fun b hb e => v1mb (hb.trans e.symm)
    · rw [hup x hx, line_snoc, if_neg hx]
      refine f2.own (f1.own (h.row x) fun b hb e => h.apart _ _ b hx hb e) fun b hb e => nmb x (hb.trans e.symm)
  · by_cases hx' : x = p.a
    · subst hx'
      rw [hsame] at hx
      rw [hup y hxy.symm] at hy
      rcases k4 _ hx with q | q
      · exact h.apart _ _ b hxy q hy
      · have := (own_lt (h.row y) hy).2; omega
    · rw [hup x hx'] at hx
      by_cases hy' : y = p.a
      · subst hy'
        rw [hsame] at hy
        rcases k4 _ hy with q | q
        · exact h.apart _ _ b hx' hx q
        · have := (own_lt (h.row x) hx).2; omega
      · rw [hup y hy'] at hy
        exact h.apart _ _ b hxy hx hy
end
/-- the map so far -/
structure LinR (base mb : Nat) (ps : List Pr) (w wr : World) : Prop where mk ::
  out : ∃ n M, n ≤ ps.length ∧ LinB base mb n M ps wr ∧ Fr (fun _ => False) w wr
def LinE (ps : List Pr) (w : World) (e : Ending) (w' : World) : Prop := ∃ mb, e = .returned (.map (some mb)) ∧ Hid (LinR w.heap.size mb ps w w')
theorem nil_row (w : World) (base : Nat) : w.ownsRow base 9 1 nilS 0 (strs []) := ⟨rfl, .inl ⟨rfl, rfl⟩⟩
theorem zero33 (w : World) : (zeroValue 33).run Try.prog w = .ok nilS w := by kernel_rfl
theorem take_snoc' {α : Type} {l : List α} {k : Nat} {x : α} (h : l[k]? = some x) : l.take (k + 1) = l.take k ++ [x] := by
  rw [List.take_add_one, h, Option.toList_some]
set_option maxRecDepth 100000 in
set_option maxHeartbeats 1000000 in
theorem lines_any (ps : List Pr) (A : Option Addr) (N c : Nat) (w : World) (hr : Rd w A N 2 (ps.flatMap fPr)) (hN : ps.length = N) (hs : ∀ p ∈ ps, p.a.size ≤ maxLen) (hl : N * 32 ≤ 140737488355328) :
    Calls Try.prog 46 #[.slice A N c] w (LinE ps w) := by
  have hmm := @run_makeMap Try.prog
  have R := Mm.hid hr
  have HS := Mm.hid hs
  have HN := Mm.hid hN
  have hn9 : N ≤ 140737488355328 := by omega
  have HL := Mm.hid hl
  have ST : Hid (LinR w.heap.size w.heap.size (ps.take 0) w (w.alloc (.map #[] 0))) :=
    ⟨0, fun _ => none, Nat.zero_le _, ⟨MapB.made w, fun _ => nil_row _ _, (fun _ _ _ _ h => nomatch h), Nat.le_refl _⟩, Fr.alloc _ _ _⟩
  clear hr hs hN hl
  go_enter Try.func46, Try.ntmps46
  go_wp2_with fail
  go_loopw [9] (fun i wr => ∃ k : Nat, k ≤ N ∧ i = .int .i64 (k : Nat) ∧ Hid (LinR w.heap.size w.heap.size (ps.take k) w wr)) (fun i _ => N - (intOf i).toNat)
  case atStart => exact ⟨0, Nat.zero_le _, rfl, ST.out⟩
  case round =>
    obtain ⟨k, hk, rfl, HK⟩ := hrel
    clear ST
    by_cases hlt : k < N
    · obtain ⟨p, hp⟩ : ∃ p, ps[k]? = some p := ⟨_, List.getElem?_eq_getElem (by rw [HN.out]; exact hlt)⟩
      obtain ⟨n, M, hn, LB, F⟩ := HK.out.out
      obtain ⟨ad, rfl, _, f0, f1⟩ := rd_pr (F.rd R.out fun _ _ h => h) HN.out hp
      have LBh := Mm.hid LB
      have FH := Mm.hid F
      obtain ⟨A1, c1, hv1, hc1, _, _⟩ := own_slice (LB.row p.a)
      have HV1 := Mm.hid hv1
      have hpa := Mm.hid (HS.out p (List.mem_of_getElem? hp))
      have HP := Mm.hid hp
      have HNN := Mm.hid hn
      clear LB F hv1 hp hn HK
      go_upto_region 5 with (fail)
      have KY := Mm.hid (keyOf_string_mk (P := Try.prog) (k := 9) Try.underlying9 hpa.out)
      obtain ⟨q, hq⟩ : ∃ q, wr.heap.size = q := ⟨_, rfl⟩
      obtain ⟨w5, hw5⟩ : ∃ w5, wr.alloc (.cells #[.string p.a, .string p.b] 37) = w5 := ⟨_, rfl⟩
      have B5 : Hid (Blk w5 q 37 #[.string p.a, .string p.b]) := by show Blk _ _ _ _; rw [← hw5, ← hq]; exact Blk.new wr _ _
      have LB5 : Hid (LinB w.heap.size w.heap.size n M (ps.take k) w5) := by
        show LinB _ _ _ _ _ _
        rw [← hw5]; exact LBh.out.fr (Fr.alloc (fun _ => False) wr _) fun _ h => h.elim
      have F5 : Hid (Fr (fun _ => False) w w5) := by show Fr _ _ _; rw [← hw5]; exact FH.out.trans (Fr.alloc (fun _ => False) wr _) fun _ _ h => h
      rw [hw5, hq]
      clear hw5 hq f0 f1 LBh FH
      have e0 : w5.cell? ⟨q, 0, none⟩ = some (.string p.a) := B5.out.cell 0
      have e1 : w5.cell? ⟨q, 1, none⟩ = some (.string p.b) := B5.out.cell 1
      have e2 : (w5.alloc (.cells #[.string p.b] 9)).cell? ⟨q, 0, none⟩ = some (.string p.a) := (B5.out.keep (Below.heap_alloc w5 _ _ B5.out.lt)).cell 0
      have hqn : q ≠ w5.heap.size := Nat.ne_of_lt B5.out.lt
      have hqn' : w5.heap.size ≠ q := hqn.symm
      obtain ⟨mb, hmb⟩ : ∃ mb, w.heap.size = mb := ⟨_, rfl⟩
      have LK : ∀ W : World, W.heap[mb]? = w5.heap[mb]? → (Instr.lookup 74 (.map (some mb)) (.string p.a) false).run Try.prog W = .ok (.slice A1 (line (ps.take k) p.a).length c1) W := fun W hW => by
        have h := (LB5.out.map.keep (w' := W) (hmb ▸ hW)).look law9 Try.underlying74 (zero33 W) KY.out
        rw [HV1.out] at h
        exact hmb ▸ h
      have LKH := Mm.hid LK
      have lk1 := LK w5 rfl
      have lk2 := LK w5.drew rfl
      have lk3 := LK (w5.alloc (.cells #[.string p.b] 9)).drew (by
        refine (Below.heap_alloc w5 (.cells #[.string p.b] 9) mb ?_)
        rw [← hmb]; exact LB5.out.map.lt)
      obtain ⟨m, hm⟩ : ∃ m, (line (ps.take k) p.a).length = m := ⟨_, rfl⟩
      have hmN : m ≤ N := by rw [← hm]; have := line_len (ps.take k) p.a; rw [List.length_take] at this; omega
      have HM := Mm.hid hm
      obtain ⟨W, hW⟩ : ∃ W, (w5.alloc (.cells #[.string p.b] 9)).drew = W := ⟨_, rfl⟩
      have F6 : Hid (Fr (fun _ => False) w5 W) := by show Fr _ _ _; rw [← hW]; exact (Fr.alloc (fun _ => False) w5 _).trans (Fr.drew (fun _ => False) _) fun _ _ h => h
      have BX : Hid (Blk W w5.heap.size 9 #[.string p.b]) := by show Blk _ _ _ _; rw [← hW]; exact (Blk.new w5 _ _).keep rfl
      have LB6 : Hid (LinB mb mb n M (ps.take k) W) := by
        have h := LB5.out.fr F6.out fun _ h => h.elim
        rw [hmb] at h; exact h
      have R6 : Hid (W.ownsRow mb 9 1 (.slice A1 m c1) m (strs (line (ps.take k) p.a))) := by
        have h := LB6.out.row p.a
        rw [HV1.out, hm] at h; exact h
      have SZ6 : Hid (mb ≤ W.heap.size) := by
        show _ ≤ _; rw [← hmb]; exact Nat.le_trans F5.out.size F6.out.size
      have HL6 : Hid ((m + 1) * 16 ≤ 140737488355328) := by show _ ≤ _; have := HL.out; omega
      have HNX : Hid (n < maxLen) := by show _ < _; have := HNN.out; rw [List.length_take] at this; unfold maxLen; omega
      have BQ6 : Hid (Blk W q 37 #[.string p.a, .string p.b]) := F6.out.blk B5.out fun h => h
      have HW := Mm.hid hW
      clear LK hW hmN
      rw [hm] at lk1 lk2 lk3 hc1
      rw [hmb]
      clear hm
      go_region_law ((rw [HW.out]; refine step_ape1 mb rfl (.tmp 19) (.tmp 22) 33 9 (.string ByteArray.empty) 1 16 #[.string p.b] w5.heap.size rfl Try.underlying33 info9 rfl (by decide) (by decide) (.slice A1 m c1) m _ rfl rfl BX.out rfl (by intro u hu; simp at hu; subst hu; rfl) R6.out SZ6.out HL6.out ?_; intro v1 wa k1 k3 k4; obtain ⟨A2, c2, hv, hc2, _, _⟩ := own_slice k1; subst hv; obtain ⟨wb, hrun, m1, g1⟩ := (LB6.out.map.fr (Fr.grown k3) (fun e => by have h := LB6.out.map.ne_own R6.out; exact h e)).put law9 κs_inj κs_lit Try.underlying74 HNX.out KY.out (.slice A2 (m + 1) c2); have e5 : wa.cell? ⟨q, 0, none⟩ = some (.string p.a) := ((Fr.grown k3).blk BQ6.out (fun e => own_ne R6.out BQ6.out (by decide) e)).cell 0; have K1 := Mm.hid k1; have K3 := Mm.hid k3; have K4 := Mm.hid k4; have M1 := Mm.hid m1; have G1 := Mm.hid g1; clear k1 k3 k4 m1 g1))
      all_goals (
        have FN : Hid (LinR w.heap.size w.heap.size (ps.take (k + 1)) w wb) := by
          show LinR _ _ _ _ _
          rw [hmb, take_snoc' HP.out]
          have hv := HV1.out
          rw [HM.out] at hv
          refine ⟨n + 1, upd M p.a (.slice A2 (m + 1) c2), by have := HNN.out; rw [List.length_append]; simpa using this, LB6.out.grow (by rw [HM.out]; exact K1.out) (by rw [hv]; exact K3.out) (fun j hj => ?_) M1.out G1.out, ?_⟩
          · rw [hv]
            rcases K4.out with e | e
            · exact .inl (e ▸ hj)
            · rw [hj] at e; injection e with e; exact .inr (Nat.le_of_eq e.symm)
          · have fa := (F5.out.trans F6.out fun _ _ h => h).trans (Fr.grown K3.out) fun j hj e => ?_
            · exact fa.trans (Fr.grown G1.out) fun j hj e => by injection e with e; omega
            · have := (own_lt R6.out e).1
              omega
        clear e0 e1 e2 e5 lk1 lk2 lk3 hrun
        go_wp2_with fail
        go_roundw
        case rel => exact ⟨k + 1, by omega, by go_num, by rw [hmb] at FN; exact FN⟩
        case measure => simp [intOf] <;> omega)
    · have hkm : k = N := by omega
      subst hkm
      go_wp2_with fail
      go_ret
      have := HK.out
      rw [List.take_of_length_le (by rw [HN.out]; exact Nat.le_refl _)] at this
      exact ⟨_, rfl, this⟩
end Go.Proofs.Ythjldlgmfplngaa

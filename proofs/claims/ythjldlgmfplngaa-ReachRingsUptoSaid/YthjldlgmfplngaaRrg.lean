/- The document's rings. -/
import Derived.Test.YthjldlgmfplngaaRnm
import Derived.Deep.RegionHeld3
namespace Go.Reach
open Go.Proofs.Ythjldlgmfplngaa
section
variable {ps : List Pr}
/-- the rings told ahead of a number -/
abbrev ahd (ps : List Pr) (i : Nat) : List (List ByteArray) := (fst ps i).map (rgo ps)
theorem ahd_end (ps : List Pr) : ahd ps (cnt ps) = ringsL ps := (rings_fst ps).symm
theorem ahd_told {i : Nat} (hi : i < cnt ps) : nmo ps i ∈ (ahd ps i).flatten ↔ ∃ j ∈ fst ps i, inR (wb ps) i = true ∧ clR (wb ps) i = clR (wb ps) j := by
  rw [List.mem_flatten]
  constructor
  · rintro ⟨l, hl, hm⟩
    obtain ⟨j, hj, rfl⟩ := List.mem_map.1 hl
    obtain ⟨z, hz, hz1, e⟩ := mem_rgo.1 hm
    rw [nm_inj hz hi e, Bool.and_eq_true, beq_iff_eq] at hz1
    exact ⟨j, hj, hz1⟩
  · rintro ⟨j, hj, h1, h2⟩
    exact ⟨_, List.mem_map.2 ⟨j, hj, rfl⟩, mem_rgo.2 ⟨i, hi, by rw [h1, h2]; simp, rfl⟩⟩
/-- a number is skipped -/
theorem ahd_skip {i : Nat} (hi : i < cnt ps) (h : nmo ps i ∈ (ahd ps i).flatten ∨ ¬ Lead ps (nmo ps i) (nmo ps i)) : ahd ps (i + 1) = ahd ps i := by
  have hn : ¬ isFst (inR (wb ps)) (clR (wb ps)) i = true := fun hf => by
    obtain ⟨h1, h2⟩ := isFst_iff.1 hf
    rcases h with h | h
    · obtain ⟨j, hj, _, hc⟩ := (ahd_told hi).1 h
      obtain ⟨h3, h4, _⟩ := mem_firsts.1 hj
      exact h2 j h3 h4 hc.symm
    · exact h ((inR_iff hi).1 h1)
  show List.map _ (firsts _ _ _) = List.map _ (firsts _ _ _)
  rw [firsts_succ, if_neg hn, List.append_nil]
theorem ahd_new {i : Nat} (hi : i < cnt ps) (h1 : nmo ps i ∉ (ahd ps i).flatten) (h2 : Lead ps (nmo ps i) (nmo ps i)) : ahd ps (i + 1) = ahd ps i ++ [rgo ps i] := by
  have hI := (inR_iff hi).2 h2
  have hf : isFst (inR (wb ps)) (clR (wb ps)) i = true := isFst_iff.2 ⟨hI, fun y hy hy1 hc => by
    obtain ⟨j, hj, hcj⟩ := first_ex (c := clR (wb ps)) y hy hy1
    exact h1 ((ahd_told hi).2 ⟨j, hj, hI, (hcj.trans hc).symm⟩)⟩
  show List.map _ (firsts _ _ _) = List.map _ (firsts _ _ _) ++ _
  rw [firsts_succ, if_pos hf, List.map_append]
  rfl
theorem ahd_len (ps : List Pr) (i : Nat) : (ahd ps i).length ≤ i := by
  rw [List.length_map]
  have := List.length_filter_le (isFst (inR (wb ps)) (clR (wb ps))) (List.range i)
  rwa [List.length_range] at this
/-- a ring under way -/
abbrev rgw (ps : List Pr) (i k : Nat) : List ByteArray := ringOf (inR (wb ps)) (clR (wb ps)) (nmR (wb ps)) k i
theorem rgw_yes {i k : Nat} (hi : i < cnt ps) (hk : k < cnt ps) (hL : Lead ps (nmo ps i) (nmo ps i)) (h : Lead ps (nmo ps i) (nmo ps k) ∧ Lead ps (nmo ps k) (nmo ps i)) : rgw ps i (k + 1) = rgw ps i k ++ [nmo ps k] := by
  show ringOf _ _ _ _ _ = _
  rw [ringOf_succ, if_pos ((cl_iff hi hk ((inR_iff hi).2 hL)).2 h)]
theorem rgw_no {i k : Nat} (hi : i < cnt ps) (hk : k < cnt ps) (hL : Lead ps (nmo ps i) (nmo ps i)) (h : ¬ (Lead ps (nmo ps i) (nmo ps k) ∧ Lead ps (nmo ps k) (nmo ps i))) : rgw ps i (k + 1) = rgw ps i k := by
  show ringOf _ _ _ _ _ = _
  rw [ringOf_succ, if_neg (fun h' => h ((cl_iff hi hk ((inR_iff hi).2 hL)).1 h')), List.append_nil]
theorem cnt_two (ps : List Pr) : cnt ps ≤ 2 * ps.length := by
  have h := nodup_le (web_ok (prs ps)).nd (U := ps.map Pr.a ++ ps.map Pr.b) fun s hs => by
    obtain ⟨q, hq, h⟩ := ((web_wl (prs ps)).ns s).1 hs
    obtain ⟨p, hp, e1, e2⟩ := mem_prs.1 hq
    rw [List.mem_append, List.mem_map, List.mem_map]
    rcases h with h | h
    · exact .inl ⟨p, hp, e1.trans h⟩
    · exact .inr ⟨p, hp, e2.trans h⟩
  rw [List.length_append, List.length_map, List.length_map] at h
  show (web (prs ps)).ns.length ≤ _
  omega
theorem rgw_len (ps : List Pr) (i k : Nat) : (rgw ps i k).length ≤ k := by
  show (ringOf _ _ _ _ _).length ≤ k
  unfold ringOf
  rw [List.length_map]
  have := List.length_filter_le (fun z => inR (wb ps) z && clR (wb ps) z == clR (wb ps) i) (List.range k)
  rwa [List.length_range] at this
end
end Go.Reach
namespace Go.Proofs.Ythjldlgmfplngaa
open Go.RowKit Go.Mm Go.Maps Go.Reach Go.WideMaps
theorem fx_alloc {w w1 : World} (h : Fr (fun _ => False) w w1) (o : Obj) : Fr (fun _ => False) w (w1.alloc o) := h.trans (Fr.alloc (fun _ => False) w1 o) fun _ _ h => h
theorem fx_drew {w w1 : World} (h : Fr (fun _ => False) w w1) : Fr (fun _ => False) w w1.drew := h.trans (Fr.drew (fun _ => False) w1) fun _ _ h => h
theorem fx_drewN {w w1 : World} (h : Fr (fun _ => False) w w1) (n : Nat) : Fr (fun _ => False) w (w1.drewN n) := h.trans (Fr.drewN (fun _ => False) w1 n) fun _ _ h => h
theorem strs_app (l m : List ByteArray) : strs l ++ strs m = strs (l ++ m) := by simp [strs]
/-- the rings told so far, and all their names in one list -/
structure RgR (w0 : World) (vo : Value) (mo : Nat) (vt : Value) (mt : Nat) (gv : List Value) (ls : List (List ByteArray)) (w : World) : Prop where
  rows : RwB w0.heap.size vo mo gv (ls.map strs) w
  told : w.ownsRow w0.heap.size 9 1 vt mt (strs ls.flatten)
  ap : ∀ u ∈ gv, ∀ b, u.ownBlock = some b → vt.ownBlock ≠ some b
  bel : Below w0.heap.size w0 w
theorem RgR.frn {w0 w w1 : World} {vo vt : Value} {mo mt : Nat} {gv : List Value} {ls : List (List ByteArray)} (h : RgR w0 vo mo vt mt gv ls w) (hf : Fr (fun _ => False) w w1) : RgR w0 vo mo vt mt gv ls w1 :=
  ⟨h.rows.frn hf, hf.own h.told fun _ _ h => h, h.ap, h.bel.trans (hf.below (fun _ h => h.elim) h.bel.size)⟩
theorem RgR.start (w : World) : RgR w (.slice none 0 0) 0 (.slice none 0 0) 0 [] [] w :=
  ⟨⟨⟨rfl, .inl ⟨rfl, rfl⟩⟩, Fam.nil _ _ _ (Nat.le_refl _)⟩, ⟨rfl, .inl ⟨rfl, rfl⟩⟩, fun _ h => by simp at h, Below.refl _ _⟩
theorem RgR.push {w0 wc wr wa wb : World} {vo vo' vt vt' vr : Value} {mo mt n : Nat} {gv : List Value} {ls : List (List ByteArray)} {l : List ByteArray} (h : RgR w0 vo mo vt mt gv ls wc) (hb : Below wc.heap.size wc wr)
    (hr : wr.ownsRow wc.heap.size 9 1 vr n (strs l)) (o1 : wa.ownsRow w0.heap.size 9 1 vt' (mt + n) (strs ls.flatten ++ strs l)) (g1 : wr.grownBy wa vt.ownBlock) (k1 : vt'.ownBlock = vt.ownBlock ∨ ∃ b, vt'.ownBlock = some b ∧ wr.heap.size ≤ b)
    (o2 : wb.ownsRow w0.heap.size 33 1 vo' (mo + 1) (gv ++ [vr])) (g2 : wa.grownBy wb vo.ownBlock) (hbel : Below w0.heap.size w0 wb) : RgR w0 vo' (mo + 1) vt' (mt + n) (gv ++ [vr]) (ls ++ [l]) wb := by
  have f1 : Fr (fun k => vt.ownBlock = some k) wr wa := Fr.grown g1
  have f2 : Fr (fun k => vo.ownBlock = some k) wa wb := Fr.grown g2
  have hn : (strs l).length = n := own_len hr
  have voR := (Fr.of_below hb).own h.rows.own fun _ _ h => h
  have vtR := (Fr.of_below hb).own h.told fun _ _ h => h
  have voA := f1.own voR fun b hb e => own_own_ne voR vtR (by decide) hb e
  have hap : ∀ u ∈ gv ++ [vr], ∀ b, u.ownBlock = some b → vt.ownBlock ≠ some b := fun u hu b hub => by
    rcases List.mem_append.1 hu with hu | hu
    · exact h.ap u hu b hub
    · rw [List.mem_singleton.1 hu] at hub
      intro e
      have h1 := (own_lt h.told e).2
      have h2 := (own_lt hr hub).1
      omega
  have fam := h.rows.fam.snoc hb (v := vr) (xs := strs l) (by rw [hn]; exact hr)
  have famA := fam.fr f1 fun u hu b hub e => hap u hu b hub e
  have famB := famA.fr f2 fun u hu b hub e => by
    obtain ⟨xs, ho⟩ := famA.at hu
    exact own_own_ne ho voA (by decide) hub e
  refine ⟨⟨o2, by rw [List.map_append]; exact famB⟩, ?_, fun u hu b hub e => ?_, hbel⟩
  · have := f2.own o1 fun b hb e => own_own_ne o1 voA (by decide) hb e
    rw [strs_app] at this
    rw [List.flatten_append]
    simpa using this
  · rcases k1 with k1 | ⟨b', k1, k2⟩
    · exact hap u hu b hub (k1 ▸ e)
    · rw [k1] at e
      injection e with e
      have := (fam.blk u hu b hub).2
      omega
end Go.Proofs.Ythjldlgmfplngaa

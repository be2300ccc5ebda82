/- Walks: the document's cache: out, Get. -/
import Derived.Test.YthojgfnaanckeaaActsR
namespace Go.Proofs.Ythojgfnaanckeaa
open Go.RowKit Go.Mm
theorem info79 : (Try.prog.info? 79).map (fun i => (i.zero, i.size, i.bytes)) = some (some (.agg #[.int .i64 0, .int .i64 0, .int .i64 0, .int .i64 0, .int .i64 0, .int .i64 0, .bool false, .bool false]), 8, 56) := by kernel_rfl
/-- what a call on the document's cache may write -/
def RX (r : Nat) (v : Value) (k : Nat) : Prop := k = r ∨ k = r + 1 ∨ v.ownBlock = some k
theorem own_setN {w : World} {base e sz n c : Nat} {ad : Addr} {xs : List Value} (h : w.ownsRow base e sz (.slice (some ad) n c) n xs) (j : Nat) (u : Value) : (w.setCell (ad.add j) u).ownsRow base e sz (.slice (some ad) n c) n (xs.set j u) := by
  rcases h.2 with ⟨h0, _⟩ | ⟨g, cap, cur, hv, hb, hg, hnc, hcm, hcs, ht⟩
  · cases h0
  · injection hv with h1 h2 h3
    injection h1 with h1
    subst h1
    subst h3
    rw [add_plain]
    refine ⟨by rw [List.length_set]; exact h.1, .inr ⟨g, c, cur.setIfInBounds j u, rfl, hb, ?_, hnc, hcm, by simpa using hcs, ?_⟩⟩
    · exact (show Blk w g e cur from hg).set j u
    · rw [← ht, Array.toList_setIfInBounds, List.take_set]
theorem rb_set {w : World} {B n c : Nat} {ad : Addr} {ds : List De} {k : Nat} {d : De} (d' : De) {j : Nat} {u : Value} (h : w.ownsRow B 79 8 (.slice (some ad) n c) n (ds.flatMap fD)) (hd : ds[k]? = some d) (hj : 0 < j) (hj8 : j < 8) (hu : fD d' = (fD d).set j u) :
    (w.setCell ⟨(ad.add (k * 8)).block, (ad.add (k * 8)).off + j, none⟩ u).ownsRow B 79 8 (.slice (some ad) n c) n ((ds.set k d').flatMap fD) := by
  rw [← add_field ad (k * 8) j hj, ← flatMap_set fD_len hd hj8 hu]
  exact own_setN h _ u
theorem rb_free {w : World} {B n c : Nat} {ad : Addr} {xs : List Value} (h : w.ownsRow B 79 8 (.slice (some ad) n c) n xs) (k j : Nat) : w.frozen? ⟨(ad.add (k * 8)).block, (ad.add (k * 8)).off + j, none⟩ = false := by
  rcases h.2 with ⟨h0, _⟩ | ⟨g, cap, cur, hv, hb, hg, _⟩
  · cases h0
  · injection hv with h1 h2 h3
    injection h1 with h1
    subst h1
    rw [add_plain]
    simp [World.frozen?, hg]
def OutEnds (B r n : Nat) (R : RS) (v : Value) (ds : List De) (w : World) (e : Ending) (w' : World) : Prop :=
  e = .returned (.tuple #[]) ∧ ∃ v', RB w' B r n { R with ds := ds } v' ∧ Fr (RX r v) w w' ∧ (∀ b, v'.ownBlock = some b → w.heap.size ≤ b)
def E (ds : List De) (j k : Nat) : List De := (ds.take k).eraseIdx j
theorem E_zero (ds : List De) (j : Nat) : E ds j 0 = [] := by simp [E]
theorem E_all (ds : List De) (j : Nat) : E ds j ds.length = ds.eraseIdx j := by unfold E; rw [List.take_length]
theorem E_skip {ds : List De} {j : Nat} {d : De} (hd : ds[j]? = some d) : E ds j (j + 1) = E ds j j := by
  unfold E
  have hl : (ds.take j).length = j := by rw [List.length_take]; have := lt_of_get hd; omega
  rw [List.take_add_one, hd, Option.toList_some, List.eraseIdx_append_of_length_le (by omega), hl, Nat.sub_self]
  have e1 : [d].eraseIdx 0 = [] := rfl
  rw [e1, List.append_nil, List.eraseIdx_of_length_le (by omega)]
theorem E_push {ds : List De} {j k : Nat} {d : De} (hd : ds[k]? = some d) (hk : k ≠ j) : E ds j (k + 1) = E ds j k ++ [d] := by
  unfold E
  have hl : (ds.take k).length = k := by rw [List.length_take]; have := lt_of_get hd; omega
  rw [List.take_add_one, hd, Option.toList_some]
  by_cases h : k < j
  · rw [List.eraseIdx_of_length_le (by rw [List.length_append, hl]; simp; omega), List.eraseIdx_of_length_le (by rw [hl]; omega)]
  · rw [List.eraseIdx_append_of_lt_length (by rw [hl]; omega)]
theorem E_len (ds : List De) (j k : Nat) : (E ds j k).length ≤ k := by
  unfold E
  have h1 := List.length_eraseIdx_le (ds.take k) j
  have h2 := List.length_take_le k ds
  omega
set_option maxHeartbeats 2000000 in
theorem out_any (B r n : Nat) (R : RS) (v : Value) (j : Nat) (w : World) (h : RB w B r n R v) (hn : R.ds.length ≤ 2048) (hB : B ≤ w.heap.size) (hj : j < R.ds.length) :
    Calls Try.prog 31 #[.pointer (some ⟨r + 1, 0, none⟩), .int .i64 (j : Nat)] w (OutEnds B r n R v (R.ds.eraseIdx j) w) := by
  obtain ⟨A, c, rfl, hc, _, _⟩ := own_slice h.list
  obtain ⟨len, hlen⟩ : ∃ len, R.ds.length = len := ⟨_, rfl⟩
  have H := Mm.hid h
  have LN := Mm.hid hlen
  have hlow := h.low
  rw [hlen] at hc hn hj
  clear h hlen
  go_enter Try.func31, Try.ntmps31
  go_wp2_with fail
  go_loopw [4, 5] (fun l i wr => ∃ k : Nat, k ≤ len ∧ i = .int .i64 (k : Nat) ∧ Hid (wr.ownsRow w.heap.size 79 8 l (E R.ds j k).length ((E R.ds j k).flatMap fD) ∧ Below w.heap.size w wr)) (fun _ i _ => len - (intOf i).toNat)
  case atStart => exact ⟨0, Nat.zero_le _, rfl, ⟨by rw [E_zero]; rfl, .inl ⟨rfl, by rw [E_zero]; rfl⟩⟩, Below.refl _ _⟩
  case round =>
    obtain ⟨k, hk, rfl, HI⟩ := hrel
    have HW := Mm.hid (H.out.below HI.out.2)
    have c3 : wr.cell? ⟨r + 1, 3, none⟩ = some (.slice A len c) := by have := HW.out.box.cell 3; rwa [LN.out] at this
    have hsz : w.heap.size ≤ wr.heap.size := HI.out.2.size
    by_cases hlt : k < len
    · obtain ⟨d, hd⟩ : ∃ d, R.ds[k]? = some d := ⟨_, List.getElem?_eq_getElem (by rw [LN.out]; exact hlt)⟩
      have hl := HW.out.list
      rw [LN.out] at hl
      obtain ⟨ad, c', hv, _, _, _, e0, e1, e2, e3, e4, e5, e6, e7⟩ := rb_cells hl hd LN.out
      injection hv with hA _ hcc
      subst hA hcc
      have kC : (k : Int) < (len : Int) := by omega
      have HD := Mm.hid hd
      clear hl hd
      by_cases hkj : k = j
      · subst hkj
        have hb : ((k : Int) != (k : Int)) = false := by simp
        have HE := Mm.hid (E_skip HD.out)
        clear e0 e1 e2 e3 e4 e5 e6 e7
        go_wp2
        go_roundw
        case rel => exact ⟨k + 1, by omega, by go_num, by show _; rw [HE.out]; exact HI.out⟩
        case measure => simp [intOf]; omega
      · have hb : ((k : Int) != (j : Int)) = true := by simp; omega
        have HE := Mm.hid (E_push HD.out hkj)
        have hone : ∀ u ∈ (#[Value.int .i64 (d.set : Nat), .int .i64 (d.place : Nat), .int .i64 d.s, .int .i64 d.o, .int .i64 d.a, .int .i64 d.tag, .bool d.al, .bool d.mkd] : Array Value).toList, u.oneCell' = true := by simp; exact ⟨rfl, rfl, rfl, rfl, rfl, rfl, rfl, rfl⟩
        have HO := Mm.hid hone
        have EL := E_len R.ds j k
        obtain ⟨m, hm⟩ : ∃ m, (E R.ds j k).length = m := ⟨_, rfl⟩
        have HM := Mm.hid hm
        have OW := Mm.hid HI.out.1
        rw [hm] at EL OW
        have BW := Mm.hid HI.out.2
        clear hone hm HI
        go_wp2_with (at_builtin; go_must (refine wp_app1 w.heap.size rfl _ _ 58 79 (.agg #[.int .i64 0, .int .i64 0, .int .i64 0, .int .i64 0, .int .i64 0, .int .i64 0, .bool false, .bool false]) 8 56 #[.int .i64 (d.set : Nat), .int .i64 (d.place : Nat), .int .i64 d.s, .int .i64 d.o, .int .i64 d.a, .int .i64 d.tag, .bool d.al, .bool d.mkd] rfl Try.underlying58 info79 rfl (by decide) (by decide) u4 m _ rfl rfl rfl HO.out (by exact OW.out) (by exact BW.out) hsz (by omega) ?_))
        intro vp w7 k1 k2 k3 k4
        have K1 : Hid (w7.ownsRow w.heap.size 79 8 vp (E R.ds j (k + 1)).length ((E R.ds j (k + 1)).flatMap fD)) := by
          unfold Hid; rw [HE.out, List.length_append, HM.out, List.flatMap_append]; exact k1
        have K2 := Mm.hid k2
        clear k1 k2 k3 k4
        go_wp2
        go_roundw
        case rel => exact ⟨k + 1, by omega, by go_num, K1.out, K2.out⟩
        case measure => simp [intOf]; omega
    · have hk' : k = len := by omega
      have OW := Mm.hid HI.out.1
      rw [hk', ← LN.out, E_all] at OW
      have BW := Mm.hid HI.out.2
      have f3 : wr.frozen? ⟨r + 1, 3, none⟩ = false := HW.out.box.free 3
      have hkl : ¬ (k : Int) < (len : Int) := by omega
      clear HI hlt hk' hk
      obtain ⟨A', c', hv, _⟩ := own_slice OW.out
      subst hv
      go_wp2
      go_end0
      refine ⟨rfl, _, ⟨HW.out.box.set 3 _, ?_, ?_, HW.out.low⟩, ?_, fun b hb => (OW.out.lt b hb).1⟩
      · exact HW.out.hands.keep (heap_setCell_other _ _ _ _ (by simp))
      · exact own_mono ((Fr.setCell wr ⟨r + 1, 3, none⟩ _).own OW.out fun b hb e => by have := (OW.out.lt b hb).1; have e : b = r + 1 := e; omega) hB
      · exact ((Fr.of_below BW.out).mono (T := RX r _) (fun _ h => h.elim)).trans (Fr.setCell wr ⟨r + 1, 3, none⟩ _) fun g _ e => .inr (.inl e)
end Go.Proofs.Ythojgfnaanckeaa

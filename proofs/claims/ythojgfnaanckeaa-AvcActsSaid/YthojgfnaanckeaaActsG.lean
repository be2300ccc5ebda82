/- Walk: the document's cache: Get. -/
import Derived.Test.YthojgfnaanckeaaActsP
namespace Go.Proofs.Ythojgfnaanckeaa
open Go.RowKit Go.Mm
def RGetEnds (B r n : Nat) (v : Value) (x y : Bool) (S' : St) (w : World) (e : Ending) (w' : World) : Prop :=
  e = .returned (.tuple #[.bool x, .bool y]) ∧ ∃ R' v', RB w' B r n R' v' ∧ Sim S' R' ∧ Fr (RX r v) w w' ∧ (∀ b, v'.ownBlock = some b → v.ownBlock = some b ∨ w.heap.size ≤ b)
theorem RB.setD {w : World} {B r n c : Nat} {R : RS} {ad : Addr} {k : Nat} {d : De} (h : RB w B r n R (.slice (some ad) R.ds.length c)) (d' : De) {j : Nat} {u : Value} (hd : R.ds[k]? = some d) (hj : 0 < j) (hj8 : j < 8) (hu : fD d' = (fD d).set j u) :
    RB (w.setCell ⟨(ad.add (k * 8)).block, (ad.add (k * 8)).off + j, none⟩ u) B r n { R with ds := R.ds.set k d' } (.slice (some ad) R.ds.length c) := by
  have hw := rb_cells h.list hd rfl
  obtain ⟨ad', c', hv, ho, _⟩ := hw
  have hv' := hv
  injection hv' with hA _ _
  injection hA with hA
  subst hA
  have hge := (h.list.lt _ ho).1
  have hl := h.low
  refine ⟨(Fr.setCell w _ u).blk h.box (fun e => ?_), h.hands.keep ((Fr.setCell w ⟨(ad.add (k * 8)).block, (ad.add (k * 8)).off + j, none⟩ u).block _ h.hands.lt (fun e => ?_)), ?_, h.low⟩
  · have e : r + 1 = (ad.add (k * 8)).block := e
    rw [add_block] at e; omega
  · have e : r = (ad.add (k * 8)).block := e
    rw [add_block] at e; omega
  · rw [List.length_set]
    exact rb_set d' h.list hd hj hj8 hu
theorem RB.setB {w : World} {B r n : Nat} {R R' : RS} {v : Value} (h : RB w B r n R v) (j : Nat) (u : Value) (h1 : R'.hands = R.hands) (h2 : R'.ds = R.ds)
    (hb : (#[.int .i64 (R.hands.length : Nat), .int .i64 (n : Nat), .slice (some ⟨r, 0, none⟩) R.hands.length R.hands.length, v, .int .i64 R.hits, .int .i64 R.misses, .int .i64 R.ev] : Array Value).setIfInBounds j u = #[.int .i64 (R.hands.length : Nat), .int .i64 (n : Nat), .slice (some ⟨r, 0, none⟩) R.hands.length R.hands.length, v, .int .i64 R'.hits, .int .i64 R'.misses, .int .i64 R'.ev]) :
    RB (w.setCell ⟨r + 1, j, none⟩ u) B r n R' v := by
  have hl := h.low
  refine ⟨?_, ?_, ?_, h.low⟩
  · rw [h1, ← hb]; exact h.box.set j u
  · rw [h1]; exact h.hands.keep (heap_setCell_other _ _ _ _ (by simp))
  · rw [h2]; exact (Fr.setCell w ⟨r + 1, j, none⟩ u).own h.list fun b hb e => by have := (h.list.lt b hb).1; have e : b = r + 1 := e; omega
theorem rx_list {r : Nat} {v : Value} {ad : Addr} {w : World} (k j : Nat) (u : Value) (ho : v.ownBlock = some ad.block) : Fr (RX r v) w (w.setCell ⟨(ad.add k).block, (ad.add k).off + j, none⟩ u) :=
  (Fr.setCell w _ u).mono fun g e => .inr (.inr (by have e : g = (ad.add k).block := e; rw [e, add_block]; exact ho))
theorem rx_box {r : Nat} {v : Value} {w : World} (j : Nat) (u : Value) : Fr (RX r v) w (w.setCell ⟨r + 1, j, none⟩ u) := (Fr.setCell w _ u).mono fun _ e => .inr (.inl e)
theorem ofR_get {ds : List De} {s o a : Int} {j : Nat} (h : ofR ds s o a = some j) : ∃ d, ds[j]? = some d := by
  obtain ⟨h1, _⟩ := List.findIdx?_eq_some_iff_getElem.1 h
  exact ⟨_, List.getElem?_eq_getElem h1⟩
set_option maxHeartbeats 2000000 in
theorem rget_any (B r n : Nat) (S : St) (R : RS) (v : Value) (tag s o a : Int) (K : Nat) (w : World) (h : RB w B r n R v) (sim : Sim S R) (hu : Uniq S) (hc : Clean S) (ho : S.ok n) (hs : S.small K) (hK : K ≤ 9223372036854775806) (hn : R.ds.length ≤ 2048) (hB : B ≤ w.heap.size) :
    Calls Try.prog 22 #[.pointer (some ⟨r + 1, 0, none⟩), .int .i64 tag, .int .i64 s, .int .i64 o, .int .i64 a] w (RGetEnds B r n v (getS S tag s o a).1.1 (getS S tag s o a).1.2 (getS S tag s o a).2 w) := by
  have b1 : 0 ≤ R.hits ∧ R.hits ≤ 9223372036854775806 := by rw [sim.hits]; exact ⟨hs.1, by have := hs.2.1; omega⟩
  have b2 : 0 ≤ R.misses ∧ R.misses ≤ 9223372036854775806 := by rw [sim.misses]; exact ⟨hs.2.2.1, by have := hs.2.2.2.1; omega⟩
  obtain ⟨b11, b12⟩ := b1
  obtain ⟨b21, b22⟩ := b2
  have hlow := h.low
  obtain ⟨A, c, rfl, hcc, _, _⟩ := own_slice h.list
  obtain ⟨len, hlen⟩ : ∃ len, R.ds.length = len := ⟨_, rfl⟩
  have H := Mm.hid h
  have LN := Mm.hid hlen
  have hcl : len ≤ c := by rw [← hlen]; exact hcc
  cases hj : ofR R.ds s o a with
  | none =>
    obtain ⟨g1, g2⟩ := sim_none (tag := tag) sim ho hj
    rw [g1]
    have G2 := Mm.hid g2
    have J := Mm.hid hj
    rw [hlen] at hn
    clear h sim hu hc ho hs g1 g2 hj hlen hcc
    go_enter Try.func22, Try.ntmps22
    go_wp2_with fail
    refine (of_any B r n R _ s o a _ H.out (by rw [LN.out]; exact hn)).mono ?_
    rintro e w1 ⟨rfl, hb⟩
    rw [J.out]
    have H1 := Mm.hid (H.out.below hb)
    have BA := Mm.hid hb
    have c5 : w1.cell? ⟨r + 1, 5, none⟩ = some (.int .i64 R.misses) := H1.out.box.cell 5
    have f5 : w1.frozen? ⟨r + 1, 5, none⟩ = false := H1.out.box.free 5
    have hm : (-1 : Int) < 0 := by decide
    clear hb
    simp only [ofFind]
    go_wp2
    go_ret2
    refine ⟨rfl, ⟨R.hands, R.ds, R.hits, R.misses + 1, R.ev⟩, _, ⟨H1.out.box.set 5 _, H1.out.hands.keep (heap_setCell_other _ _ _ _ (by simp)), ?_, hlow⟩, G2.out, ((Fr.of_below BA.out).mono (T := RX r _) (fun _ h => h.elim)).trans (Fr.setCell w1 ⟨r + 1, 5, none⟩ _) fun g _ e => .inr (.inl e), fun b hb => .inl hb⟩
    exact (Fr.setCell w1 ⟨r + 1, 5, none⟩ _).own H1.out.list fun b hb e => by have := (H1.out.list.lt b hb).1; have e : b = r + 1 := e; omega
  | some j =>
    obtain ⟨d, hdj⟩ := ofR_get hj
    have hjl : j < len := by rw [← hlen]; exact lt_of_get hdj
    have J := Mm.hid hj
    have D := Mm.hid hdj
    by_cases ht : d.tag = tag
    · obtain ⟨g1, g2⟩ := sim_hit sim hu hc hj hdj ht
      rw [g1]
      have G2 := Mm.hid g2
      have ht' : (d.tag == tag) = true := by simpa using ht
      rw [hlen] at hn
      clear h sim hu hc ho hs g1 g2 hj hlen hcc hdj ht
      go_enter Try.func22, Try.ntmps22
      go_wp2_with fail
      refine (of_any B r n R _ s o a _ H.out (by rw [LN.out]; exact hn)).mono ?_
      rintro e w1 ⟨rfl, hb⟩
      rw [J.out]
      have H1 := Mm.hid (H.out.below hb)
      have BA := Mm.hid hb
      have hl := H1.out.list
      rw [LN.out] at hl
      obtain ⟨ad, c', hv, hown, hlt, _, e0, e1, e2, e3, e4, e5, e6, e7⟩ := rb_cells hl D.out LN.out
      have OW := Mm.hid hl
      injection hv with hA _ hc2
      subst hA hc2
      have hge := (hl.lt _ hown).1
      have hne : ¬ (ad.add (j * 8)).block = r + 1 := by rw [add_block]; omega
      have hne' : ¬ r + 1 = (ad.add (j * 8)).block := by rw [add_block]; omega
      have c3 : w1.cell? ⟨r + 1, 3, none⟩ = some (.slice (some ad) len c) := by have := H1.out.box.cell 3; rwa [LN.out] at this
      have c4 : w1.cell? ⟨r + 1, 4, none⟩ = some (.int .i64 R.hits) := H1.out.box.cell 4
      have f4 : w1.frozen? ⟨r + 1, 4, none⟩ = false := H1.out.box.free 4
      have f7 := rb_free hl j 7
      have kI : (0 : Int) ≤ (j : Int) := by omega
      have kC : (j : Int) < (len : Int) := by omega
      have HO := Mm.hid hown
      clear hb hl e0 e1 e2 e3 e4 hown
      simp only [ofFind]
      go_wp2
      go_ret2
      have Z0 := H1.out
      have LN' := LN.out
      have Z1 := Z0.setD (c := c) { d with mkd := true } (j := 7) (u := .bool true) D.out (by decide) (by decide) rfl
      have Z2 := Z1.setB (R' := ⟨R.hands, R.ds.set j { d with mkd := true }, R.hits + 1, R.misses, R.ev⟩) 4 (.int .i64 (R.hits + 1)) rfl rfl (by simp)
      refine ⟨rfl, ⟨R.hands, R.ds.set j { d with mkd := true }, R.hits + 1, R.misses, R.ev⟩, _, Z2, G2.out, ?_, fun b hb => .inl hb⟩
      refine (((Fr.of_below BA.out).mono (T := RX r _) (fun _ h => h.elim)).trans (rx_list (j * 8) 7 _ ?_) fun g _ e => e).trans (rx_box 4 _) fun g _ e => e
      rw [LN']; exact HO.out
    · obtain ⟨g1, g2⟩ := sim_other sim hu hc hj hdj ht
      rw [g1]
      have G2 := Mm.hid g2
      have ht' : (d.tag == tag) = false := by simpa using ht
      rw [hlen] at hn
      clear h sim hu hc ho hs g1 g2 hj hlen hcc hdj ht
      go_enter Try.func22, Try.ntmps22
      go_wp2_with fail
      refine (of_any B r n R _ s o a _ H.out (by rw [LN.out]; exact hn)).mono ?_
      rintro e w1 ⟨rfl, hb⟩
      rw [J.out]
      have H1 := Mm.hid (H.out.below hb)
      have BA := Mm.hid hb
      have hl := H1.out.list
      rw [LN.out] at hl
      obtain ⟨ad, c', hv, hown, hlt, _, e0, e1, e2, e3, e4, e5, e6, e7⟩ := rb_cells hl D.out LN.out
      injection hv with hA _ hc2
      subst hA hc2
      have hsz : w.heap.size ≤ w1.heap.size := hb.size
      have c3 : w1.cell? ⟨r + 1, 3, none⟩ = some (.slice (some ad) len c) := by have := H1.out.box.cell 3; rwa [LN.out] at this
      have c5 : w1.cell? ⟨r + 1, 5, none⟩ = some (.int .i64 R.misses) := H1.out.box.cell 5
      have f5 : w1.frozen? ⟨r + 1, 5, none⟩ = false := H1.out.box.free 5
      have kI : (0 : Int) ≤ (j : Int) := by omega
      have kC : (j : Int) < (len : Int) := by omega
      have Z2 := Mm.hid (H1.out.setB (R' := ⟨R.hands, R.ds, R.hits, R.misses + 1, R.ev⟩) 5 (.int .i64 (R.misses + 1)) rfl rfl (by simp))
      clear hb hl e0 e1 e2 e3 e4 e6 e7 hown
      simp only [ofFind]
      go_wp2_with fail
      refine (out_any B r n ⟨R.hands, R.ds, R.hits, R.misses + 1, R.ev⟩ _ j _ (by exact Z2.out) (by show R.ds.length ≤ 2048; rw [LN.out]; exact hn) (by simp; omega) (by show j < R.ds.length; rw [LN.out]; exact hjl)).mono ?_
      rintro e w2 ⟨rfl, v', Z3, F3, O3⟩
      have Z3 := Mm.hid Z3
      have F3 := Mm.hid F3
      have O3 := Mm.hid O3
      go_wp2
      go_ret2
      refine ⟨rfl, ⟨R.hands, R.ds.eraseIdx j, R.hits, R.misses + 1, R.ev⟩, v', Z3.out, G2.out, ?_, fun b hb => .inr (Nat.le_trans hsz (by have := O3.out b hb; simpa using this))⟩
      exact (((Fr.of_below BA.out).mono (T := RX r _) (fun _ h => h.elim)).trans (rx_box 5 _) fun g _ e => e).trans F3.out fun g _ e => e
end Go.Proofs.Ythojgfnaanckeaa

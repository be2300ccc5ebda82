/- Walk: the document's cache: Put of what is not there. -/
import Derived.Test.YthojgfnaanckeaaActsQ
import Derived.StillTailTactics
namespace Go.Proofs.Ythojgfnaanckeaa
open Go.RowKit Go.Mm
theorem push_fin {B r n len : Nat} {R : RS} {v vp : Value} {d : De} {w5 W w6 : World} (H5 : RB w5 B r n R v) (LN : R.ds.length = len) (FA : Fr (fun _ => False) w5 W) (K1 : w6.ownsRow B 79 8 vp (len + 1) (R.ds.flatMap fD ++ fD d)) (K3 : W.grownBy w6 v.ownBlock) :
    RB (w6.setCell ⟨r + 1, 3, none⟩ vp) B r n { R with ds := R.ds ++ [d] } vp ∧ Fr (RX r v) w5 (w6.setCell ⟨r + 1, 3, none⟩ vp) := by
  have hf1 : Fr (fun k => v.ownBlock = some k) w5 w6 := (FA.mono (T := fun k => v.ownBlock = some k) fun _ h => h.elim).trans (Fr.grown K3) fun _ _ h => h
  have hlow := H5.low
  have h1 : ¬ v.ownBlock = some (r + 1) := fun e => by have := (H5.list.lt _ e).1; omega
  have h2 : ¬ v.ownBlock = some r := fun e => by have := (H5.list.lt _ e).1; omega
  have hs := Fr.setCell w6 ⟨r + 1, 3, none⟩ vp
  refine ⟨⟨(hf1.blk H5.box h1).set 3 vp, (H5.hands.keep (hf1.block _ H5.hands.lt h2)).keep (heap_setCell_other _ _ _ _ (by simp)), ?_, hlow⟩, (hf1.mono fun k hk => .inr (.inr hk)).trans hs fun g _ e => .inr (.inl e)⟩
  have e1 : ({ R with ds := R.ds ++ [d] } : RS).ds.length = len + 1 := by show (R.ds ++ [d]).length = len + 1; rw [List.length_append, LN]; rfl
  have e2 : ({ R with ds := R.ds ++ [d] } : RS).ds.flatMap fD = R.ds.flatMap fD ++ fD d := by show (R.ds ++ [d]).flatMap fD = _; rw [List.flatMap_append]; simp
  rw [e1, e2]
  exact hs.own K1 fun b hb e => by have := (K1.lt b hb).1; have e : b = r + 1 := e; omega
theorem own_plain {w : World} {base e sz n n' c : Nat} {ad : Addr} {xs : List Value} (h : w.ownsRow base e sz (.slice (some ad) n c) n' xs) (hn : n' = n) : ∃ g, ad = ⟨g, 0, none⟩ := by
  subst hn
  rcases h.2 with ⟨h0, _⟩ | ⟨g, cap, cur, hv, hb, hg, _⟩
  · cases h0
  · injection hv with h1 h2 h3
    injection h1 with h1
    exact ⟨g, h1⟩
theorem rb_free0 {w : World} {B n c : Nat} {ad : Addr} {xs : List Value} (h : w.ownsRow B 79 8 (.slice (some ad) n c) n xs) (k : Nat) : w.frozen? (ad.add (k * 8)) = false := by
  rcases h.2 with ⟨h0, _⟩ | ⟨g, cap, cur, hv, hb, hg, _⟩
  · cases h0
  · injection hv with h1 h2 h3
    injection h1 with h1
    subst h1
    rw [add_plain]
    simp [World.frozen?, hg]
theorem set8 {ds : List De} {k : Nat} {d : De} (hd : ds[k]? = some d) (e : De) :
    ((((((((ds.flatMap fD).set (k * 8 + 0) (.int .i64 (e.set : Nat))).set (k * 8 + 1) (.int .i64 (e.place : Nat))).set (k * 8 + 2) (.int .i64 e.s)).set (k * 8 + 3) (.int .i64 e.o)).set (k * 8 + 4) (.int .i64 e.a)).set (k * 8 + 5) (.int .i64 e.tag)).set (k * 8 + 6) (.bool e.al)).set (k * 8 + 7) (.bool e.mkd) = (ds.set k e).flatMap fD := by
  obtain ⟨d0, d1, d2, d3, d4, d5, d6, d7⟩ := d
  obtain ⟨e0, e1, e2, e3, e4, e5, e6, e7⟩ := e
  have hk := lt_of_get hd
  have at_ : ∀ x : De, (ds.set k x)[k]? = some x := fun x => List.getElem?_set_self hk
  dsimp only
  rw [flatMap_set fD_len hd (j := 0) (y := ⟨e0, d1, d2, d3, d4, d5, d6, d7⟩) (by decide) rfl]
  rw [flatMap_set fD_len (at_ ⟨e0, d1, d2, d3, d4, d5, d6, d7⟩) (j := 1) (y := ⟨e0, e1, d2, d3, d4, d5, d6, d7⟩) (by decide) rfl, List.set_set]
  rw [flatMap_set fD_len (at_ ⟨e0, e1, d2, d3, d4, d5, d6, d7⟩) (j := 2) (y := ⟨e0, e1, e2, d3, d4, d5, d6, d7⟩) (by decide) rfl, List.set_set]
  rw [flatMap_set fD_len (at_ ⟨e0, e1, e2, d3, d4, d5, d6, d7⟩) (j := 3) (y := ⟨e0, e1, e2, e3, d4, d5, d6, d7⟩) (by decide) rfl, List.set_set]
  rw [flatMap_set fD_len (at_ ⟨e0, e1, e2, e3, d4, d5, d6, d7⟩) (j := 4) (y := ⟨e0, e1, e2, e3, e4, d5, d6, d7⟩) (by decide) rfl, List.set_set]
  rw [flatMap_set fD_len (at_ ⟨e0, e1, e2, e3, e4, d5, d6, d7⟩) (j := 5) (y := ⟨e0, e1, e2, e3, e4, e5, d6, d7⟩) (by decide) rfl, List.set_set]
  rw [flatMap_set fD_len (at_ ⟨e0, e1, e2, e3, e4, e5, d6, d7⟩) (j := 6) (y := ⟨e0, e1, e2, e3, e4, e5, e6, d7⟩) (by decide) rfl, List.set_set]
  rw [flatMap_set fD_len (at_ ⟨e0, e1, e2, e3, e4, e5, e6, d7⟩) (j := 7) (y := ⟨e0, e1, e2, e3, e4, e5, e6, e7⟩) (by decide) rfl, List.set_set]
theorem RB.store8 {w : World} {B r n c m : Nat} {R : RS} {ad : Addr} {k : Nat} {d : De} (h : RB w B r n R (.slice (some ad) m c)) (hm : R.ds.length = m) (hd : R.ds[k]? = some d) (e : De) :
    RB ((((((((w.setCell (ad.add (k * 8)) (.int .i64 (e.set : Nat))).setCell ⟨(ad.add (k * 8)).block, (ad.add (k * 8)).off + 1, none⟩ (.int .i64 (e.place : Nat))).setCell ⟨(ad.add (k * 8)).block, (ad.add (k * 8)).off + 2, none⟩ (.int .i64 e.s)).setCell ⟨(ad.add (k * 8)).block, (ad.add (k * 8)).off + 3, none⟩ (.int .i64 e.o)).setCell ⟨(ad.add (k * 8)).block, (ad.add (k * 8)).off + 4, none⟩ (.int .i64 e.a)).setCell ⟨(ad.add (k * 8)).block, (ad.add (k * 8)).off + 5, none⟩ (.int .i64 e.tag)).setCell ⟨(ad.add (k * 8)).block, (ad.add (k * 8)).off + 6, none⟩ (.bool e.al)).setCell ⟨(ad.add (k * 8)).block, (ad.add (k * 8)).off + 7, none⟩ (.bool e.mkd)) B r n { R with ds := R.ds.set k e } (.slice (some ad) m c) ∧
    Fr (RX r (.slice (some ad) m c)) w ((((((((w.setCell (ad.add (k * 8)) (.int .i64 (e.set : Nat))).setCell ⟨(ad.add (k * 8)).block, (ad.add (k * 8)).off + 1, none⟩ (.int .i64 (e.place : Nat))).setCell ⟨(ad.add (k * 8)).block, (ad.add (k * 8)).off + 2, none⟩ (.int .i64 e.s)).setCell ⟨(ad.add (k * 8)).block, (ad.add (k * 8)).off + 3, none⟩ (.int .i64 e.o)).setCell ⟨(ad.add (k * 8)).block, (ad.add (k * 8)).off + 4, none⟩ (.int .i64 e.a)).setCell ⟨(ad.add (k * 8)).block, (ad.add (k * 8)).off + 5, none⟩ (.int .i64 e.tag)).setCell ⟨(ad.add (k * 8)).block, (ad.add (k * 8)).off + 6, none⟩ (.bool e.al)).setCell ⟨(ad.add (k * 8)).block, (ad.add (k * 8)).off + 7, none⟩ (.bool e.mkd)) := by
  subst hm
  obtain ⟨ad', c', hv, ho, _⟩ := rb_cells h.list hd rfl
  have hv' := hv
  injection hv' with hA _ _
  injection hA with hA
  subst hA
  have hge := (h.list.lt _ ho).1
  have hl := h.low
  have fr : ∀ (W : World) (j : Nat) (u : Value), Fr (fun g => g = ad.block) W (W.setCell ⟨(ad.add (k * 8)).block, (ad.add (k * 8)).off + j, none⟩ u) := fun W j u => (Fr.setCell W _ u).mono fun g e => by have e : g = (ad.add (k * 8)).block := e; rw [e, add_block]
  have fr0 : ∀ (W : World) (u : Value), Fr (fun g => g = ad.block) W (W.setCell (ad.add (k * 8)) u) := fun W u => (Fr.setCell W _ u).mono fun g e => by have e : g = (ad.add (k * 8)).block := e; rw [e, add_block]
  have F := (((((((fr0 w (.int .i64 (e.set : Nat))).trans (fr _ 1 (.int .i64 (e.place : Nat))) fun _ _ e => e).trans (fr _ 2 (.int .i64 e.s)) fun _ _ e => e).trans (fr _ 3 (.int .i64 e.o)) fun _ _ e => e).trans (fr _ 4 (.int .i64 e.a)) fun _ _ e => e).trans (fr _ 5 (.int .i64 e.tag)) fun _ _ e => e).trans (fr _ 6 (.bool e.al)) fun _ _ e => e).trans (fr _ 7 (.bool e.mkd)) fun _ _ e => e
  refine ⟨⟨F.blk h.box (fun e => by have e : r + 1 = ad.block := e; omega), h.hands.keep (F.block _ h.hands.lt (fun e => by have e : r = ad.block := e; omega)), ?_, h.low⟩, F.mono fun g e => .inr (.inr (by rw [ho, e]))⟩
  have O0 := own_setN h.list (k * 8 + 0) (.int .i64 (e.set : Nat))
  have O7 := own_setN (own_setN (own_setN (own_setN (own_setN (own_setN (own_setN O0 (k * 8 + 1) (.int .i64 (e.place : Nat))) (k * 8 + 2) (.int .i64 e.s)) (k * 8 + 3) (.int .i64 e.o)) (k * 8 + 4) (.int .i64 e.a)) (k * 8 + 5) (.int .i64 e.tag)) (k * 8 + 6) (.bool e.al)) (k * 8 + 7) (.bool e.mkd)
  rw [set8 hd e] at O7
  rw [add_field ad (k * 8) 1 (by decide), add_field ad (k * 8) 2 (by decide), add_field ad (k * 8) 3 (by decide), add_field ad (k * 8) 4 (by decide), add_field ad (k * 8) 5 (by decide), add_field ad (k * 8) 6 (by decide), add_field ad (k * 8) 7 (by decide)] at O7
  rw [List.length_set]
  exact O7
/-- the last turn of the clock -/
theorem sim_last {S : St} {R : RS} {n : Nat} {tag s o a : Int} {al : Bool} {i : Nat} {l l' : List Pl} {x h' q f : Nat} {ds' : List De} {d : De} (sim : Sim S R) (hr : S.rows[i]? = some (l, x)) (hclk : clock n f l' h' = clock n n l x) (hrel : Rel (S.rows.set i (l', h')) ds') (hlen : ds'.length = R.ds.length)
    (hq : ds'[q]? = some d) (h1 : d.set = i) (h2 : d.place = h') {p : Pl} (hp : l'[h']? = some p) (hm : p.marked = false) :
    Sim (full n S tag s o a al i l x) ⟨R.hands.set i ((h' + 1) % n), ds'.set q ⟨i, h', s, o, a, tag, al, false⟩, R.hits, R.misses, R.ev + 1⟩ := by
  have hs : clock n n l x = (l', h') := by rw [← hclk, clock_stop hp hm]
  have hri : (S.rows.set i (l', h'))[d.set]? = some (l', h') := by rw [h1]; exact List.getElem?_set_self (lt_of_get hr)
  have hrel2 := hrel.set (d' := ⟨i, h', s, o, a, tag, al, false⟩) (y := (h' + 1) % n) hq h1.symm h2.symm hri
  rw [h1, h2, List.set_set] at hrel2
  unfold full
  rw [hs]
  exact ⟨by simp only [List.map_set]; rw [sim.hands], hrel2, sim.hits, sim.misses, by simp only; rw [sim.ev], by simp only [List.length_set]; rw [hlen]; exact sim.held⟩
set_option maxRecDepth 100000 in
set_option maxHeartbeats 8000000 in
theorem rput_new (B r n : Nat) (S : St) (R : RS) (v : Value) (tag s o a : Int) (al : Bool) (K : Nat) (w : World) (h : RB w B r n R v) (sim : Sim S R) (hu : Uniq S) (hc : Clean S) (ho : S.ok n) (hs : S.small K) (hK : K ≤ 9223372036854775806) (hn : R.ds.length ≤ 2048) (hB : B ≤ w.heap.size) (hj : ofR R.ds s o a = none) :
    Calls Try.prog 23 #[.pointer (some ⟨r + 1, 0, none⟩), .int .i64 tag, .int .i64 s, .int .i64 o, .int .i64 a, .bool al] w (RPutEnds B r n v (putS n S tag s o a al) w) := by
  have b1 : 0 ≤ R.ev ∧ R.ev ≤ 9223372036854775806 := by rw [sim.ev]; exact ⟨hs.2.2.2.2.1, by have := hs.2.2.2.2.2.1; omega⟩
  obtain ⟨b11, b12⟩ := b1
  obtain ⟨A, c, rfl, hcc, _, _⟩ := own_slice h.list
  obtain ⟨len, hlen⟩ : ∃ len, R.ds.length = len := ⟨_, rfl⟩
  have hlow := h.low
  have hcl : len ≤ c := by rw [← hlen]; exact hcc
  have hL : R.hands.length = S.rows.length := by rw [sim.hands, List.length_map]
  obtain ⟨i, hi⟩ : ∃ i, spot S.rows.length s o a = i := ⟨_, rfl⟩
  have hiL : i < S.rows.length := by rw [← hi]; exact spot_lt s o a ho.1
  obtain ⟨⟨l, x⟩, hr⟩ : ∃ q, S.rows[i]? = some q := ⟨_, List.getElem?_eq_getElem hiL⟩
  have hlx := ho.2.2.2.2 _ _ hr
  have n1 : 1 ≤ n := ho.2.2.1
  have n8 : n ≤ 8 := ho.2.2.2.1
  have L1 : 1 ≤ S.rows.length := ho.1
  have L2 : S.rows.length ≤ 256 := ho.2.1
  have SM := Mm.hid sim
  have HU := Mm.hid hu
  have HC := Mm.hid hc
  have OK := Mm.hid ho
  have HR := Mm.hid hr
  have HI := Mm.hid hi
  have HL := Mm.hid hL
  have HLX := Mm.hid hlx
  have BA := Mm.hid ((Below.refl w.heap.size w).alloc (Nat.le_refl _) (.cells #[.int .i64 s, .int .i64 o, .int .i64 a] 77))
  have T0 := Mm.hid (Blk.new w #[.int .i64 s, .int .i64 o, .int .i64 a] 77)
  have H := Mm.hid (h.below BA.out)
  have LN := Mm.hid hlen
  have J := Mm.hid hj
  rw [hlen] at hn
  clear h sim hu hc ho hs hj hlen hcc hr hi hL hlx
  go_enter Try.func23, Try.ntmps23
  go_wp2_with fail
  refine (of_any B r n R _ s o a _ (by exact H.out) (by rw [LN.out]; exact hn)).mono ?_
  rintro e w1 ⟨rfl, hb⟩
  rw [J.out]
  have H1 := Mm.hid (H.out.below hb)
  have B1 := Mm.hid (BA.out.trans (hb.mono (by simp)))
  have T1 := Mm.hid (T0.out.keep (hb.block _ (by simp)))
  have s1 : w.heap.size < w1.heap.size := by have := hb.size; simp at this; omega
  clear hb
  simp only [ofFind]
  go_wp2_with fail
  refine (rspot_any B r n R _ s o a _ H1.out (by rw [HL.out]; exact L1) (by rw [HL.out]; exact L2)).mono ?_
  rintro e w2 ⟨rfl, hb⟩
  rw [HL.out, HI.out]
  have H2 := Mm.hid (H1.out.below hb)
  have T2 := Mm.hid (T1.out.keep (hb.block _ s1))
  have s2 : w1.heap.size ≤ w2.heap.size := hb.size
  have B2 := Mm.hid (B1.out.trans (hb.mono (by omega)))
  have t0 : w2.cell? ⟨w.heap.size, 0, none⟩ = some (.int .i64 s) := T2.out.cell 0
  have t1 : w2.cell? ⟨w.heap.size, 1, none⟩ = some (.int .i64 o) := T2.out.cell 1
  have t2 : w2.cell? ⟨w.heap.size, 2, none⟩ = some (.int .i64 a) := T2.out.cell 2
  have B3 := Mm.hid (B2.out.alloc (by omega) (.cells #[.int .i64 (i : Nat), .int .i64 0, .int .i64 s, .int .i64 o, .int .i64 a, .int .i64 tag, .bool al, .bool false] 79))
  have G3 := Mm.hid (Blk.new w2 #[.int .i64 (i : Nat), .int .i64 0, .int .i64 s, .int .i64 o, .int .i64 a, .int .i64 tag, .bool al, .bool false] 79)
  clear hb
  go_wp2_with fail
  go_loopw [16] (fun p wr => ∃ k : Nat, k ≤ n ∧ p = .int .i64 (k : Nat) ∧ Hid (∀ k', k' < k → inR R.ds i k' ≠ none) ∧ Hid (Below (w2.heap.size + 1) (w2.alloc (.cells #[.int .i64 (i : Nat), .int .i64 0, .int .i64 s, .int .i64 o, .int .i64 a, .int .i64 tag, .bool al, .bool false] 79)) wr)) (fun p _ => n - (intOf p).toNat)
  case atStart => exact ⟨0, Nat.zero_le _, rfl, (fun _ h => by omega), ⟨rfl, rfl, rfl, Nat.le_of_eq (by simp), fun _ _ => rfl⟩⟩
  case round =>
    obtain ⟨k, hk, rfl, HK, HB⟩ := hrel
    have HW := Mm.hid (H2.out.below (by have := HB.out; exact ((Below.refl w2.heap.size w2).alloc (Nat.le_refl _) (.cells #[.int .i64 (i : Nat), .int .i64 0, .int .i64 s, .int .i64 o, .int .i64 a, .int .i64 tag, .bool al, .bool false] 79)).trans (this.mono (by omega))))
    have GW := Mm.hid (G3.out.keep (HB.out.block _ (by omega)))
    have BW := Mm.hid (B3.out.trans (HB.out.mono (by omega)))
    have c1 : wr.cell? ⟨r + 1, 1, none⟩ = some (.int .i64 (n : Nat)) := HW.out.box.cell 1
    by_cases hlt : k < n
    · go_wp2_with fail
      refine (in_any B r n R _ i k _ HW.out (by rw [LN.out]; exact hn)).mono ?_
      rintro e w4 ⟨rfl, hb⟩
      have H4 := Mm.hid (HW.out.below hb)
      have G4 := Mm.hid (GW.out.keep (hb.block _ GW.out.lt))
      have B4 := Mm.hid (BW.out.trans (hb.mono BW.out.size))
      have C4 := Mm.hid (HB.out.trans (hb.mono (by have := HB.out.size; simpa using this)))
      clear hb
      cases hq : inR R.ds i k with
      | some q =>
        have HQ := Mm.hid hq
        have hneg : ¬ ((q : Nat) : Int) < 0 := by omega
        clear hq
        simp only [ofFind]
        go_wp2
        go_roundw
        case rel => exact ⟨k + 1, by omega, by go_num, (fun k' hk' => by
          by_cases e : k' = k
          · subst e; rw [HQ.out]; exact Option.some_ne_none q
          · exact HK.out k' (by omega)), C4.out⟩
        case measure => simp [intOf]; omega
      | none =>
        have HQ := Mm.hid hq
        clear hq
        have g1 : w4.cell? ⟨w2.heap.size, 1, none⟩ = some (.int .i64 0) := G4.out.cell 1
        have f1 : w4.frozen? ⟨w2.heap.size, 1, none⟩ = false := G4.out.free 1
        simp only [ofFind]
        have SF : Hid (Sim (putS n S tag s o a al) ⟨R.hands, R.ds ++ [⟨i, k, s, o, a, tag, al, false⟩], R.hits, R.misses, R.ev⟩) := by
          have := sim_free (n := n) (tag := tag) (al := al) (k := k) SM.out OK.out HC.out J.out hlt (by rw [HI.out]; exact HQ.out) (by rw [HI.out]; exact HK.out)
          rw [HI.out] at this
          exact this
        have hGr : w2.heap.size ≠ r + 1 ∧ w2.heap.size ≠ r ∧ ∀ b, (Value.slice A R.ds.length c).ownBlock = some b → b ≠ w2.heap.size := by
          have q1 := H2.out.box.lt
          have q2 := H2.out.hands.lt
          exact ⟨by omega, by omega, fun b hb => by have := (H2.out.list.lt b hb).2; omega⟩
        have H5 : Hid (RB (w4.setCell ⟨w2.heap.size, 1, none⟩ (.int .i64 (k : Nat))) B r n R (.slice A R.ds.length c)) := H4.out.keep (Fr.setCell w4 ⟨w2.heap.size, 1, none⟩ _) (fun e => hGr.1 e.symm) (fun e => hGr.2.1 e.symm) (fun b hb e => hGr.2.2 b hb e)
        have G5 : Hid (Blk (w4.setCell ⟨w2.heap.size, 1, none⟩ (.int .i64 (k : Nat))) w2.heap.size 79 #[.int .i64 (i : Nat), .int .i64 (k : Nat), .int .i64 s, .int .i64 o, .int .i64 a, .int .i64 tag, .bool al, .bool false]) := G4.out.set 1 (.int .i64 (k : Nat))
        have s5 : (w4.setCell ⟨w2.heap.size, 1, none⟩ (.int .i64 (k : Nat))).heap.size = w4.heap.size := by simp
        have F5 : Hid (Fr (fun _ => False) w (w4.setCell ⟨w2.heap.size, 1, none⟩ (.int .i64 (k : Nat)))) := Fr.of_below (B4.out.trans ((Fr.setCell w4 ⟨w2.heap.size, 1, none⟩ (.int .i64 (k : Nat))).below (B := w.heap.size) (fun g e => by have e : g = w2.heap.size := e; omega) B4.out.size))
        have lw : w.heap.size ≤ w4.heap.size := B4.out.size
        go_wp2_with fail
        generalize w4.setCell ⟨w2.heap.size, 1, none⟩ (.int .i64 (k : Nat)) = W5 at *
        rw [← s5] at lw
        clear s5 g1 f1 C4 B4 G4 H4 hGr c1
        have c3 : W5.cell? ⟨r + 1, 3, none⟩ = some (.slice A len c) := by have := H5.out.box.cell 3; rwa [LN.out] at this
        have lg := H5.out.box.lt
        have d0 : W5.cell? ⟨w2.heap.size, 0, none⟩ = some (.int .i64 (i : Nat)) := G5.out.cell 0
        have d1 : W5.cell? ⟨w2.heap.size, 1, none⟩ = some (.int .i64 (k : Nat)) := G5.out.cell 1
        have d2 : W5.cell? ⟨w2.heap.size, 2, none⟩ = some (.int .i64 s) := G5.out.cell 2
        have d3 : W5.cell? ⟨w2.heap.size, 3, none⟩ = some (.int .i64 o) := G5.out.cell 3
        have d4 : W5.cell? ⟨w2.heap.size, 4, none⟩ = some (.int .i64 a) := G5.out.cell 4
        have d5 : W5.cell? ⟨w2.heap.size, 5, none⟩ = some (.int .i64 tag) := G5.out.cell 5
        have d6 : W5.cell? ⟨w2.heap.size, 6, none⟩ = some (.bool al) := G5.out.cell 6
        have d7 : W5.cell? ⟨w2.heap.size, 7, none⟩ = some (.bool false) := G5.out.cell 7
        have lG := G5.out.lt
        have BX := Mm.hid (Blk.new W5 #[.int .i64 (i : Nat), .int .i64 (k : Nat), .int .i64 s, .int .i64 o, .int .i64 a, .int .i64 tag, .bool al, .bool false] 79)
        have hone : ∀ u ∈ (#[Value.int .i64 (i : Nat), .int .i64 (k : Nat), .int .i64 s, .int .i64 o, .int .i64 a, .int .i64 tag, .bool al, .bool false] : Array Value).toList, u.oneCell' = true := by simp; exact ⟨rfl, rfl, rfl, rfl, rfl, rfl, rfl, rfl⟩
        have HO := Mm.hid hone
        have OT : Hid ((W5.alloc (.cells #[.int .i64 (i : Nat), .int .i64 (k : Nat), .int .i64 s, .int .i64 o, .int .i64 a, .int .i64 tag, .bool al, .bool false] 79)).drew.ownsRow B 79 8 (.slice A len c) len (R.ds.flatMap fD)) := by
          have := (H5.out.list.alloc (.cells #[.int .i64 (i : Nat), .int .i64 (k : Nat), .int .i64 s, .int .i64 o, .int .i64 a, .int .i64 tag, .bool al, .bool false] 79)).drew
          rwa [LN.out] at this
        have FA : Hid (Fr (fun _ => False) W5 (W5.alloc (.cells #[.int .i64 (i : Nat), .int .i64 (k : Nat), .int .i64 s, .int .i64 o, .int .i64 a, .int .i64 tag, .bool al, .bool false] 79)).drew) := (Fr.alloc _ W5 (.cells #[.int .i64 (i : Nat), .int .i64 (k : Nat), .int .i64 s, .int .i64 o, .int .i64 a, .int .i64 tag, .bool al, .bool false] 79)).trans (Fr.drew (fun _ => False) _) (fun _ _ h => h)
        have GK : Hid ((W5.alloc (.cells #[.int .i64 (i : Nat), .int .i64 (k : Nat), .int .i64 s, .int .i64 o, .int .i64 a, .int .i64 tag, .bool al, .bool false] 79)).drew.heap[r + 1]? = W5.heap[r + 1]?) := Below.heap_alloc W5 (.cells #[.int .i64 (i : Nat), .int .i64 (k : Nat), .int .i64 s, .int .i64 o, .int .i64 a, .int .i64 tag, .bool al, .bool false] 79) (r + 1) lg
        have HSB : Hid (B ≤ (W5.alloc (.cells #[.int .i64 (i : Nat), .int .i64 (k : Nat), .int .i64 s, .int .i64 o, .int .i64 a, .int .i64 tag, .bool al, .bool false] 79)).drew.heap.size) := Mm.hid (Nat.le_trans (Nat.le_trans hB lw) FA.out.size)
        have lg2 : Hid (r + 1 < (W5.alloc (.cells #[.int .i64 (i : Nat), .int .i64 (k : Nat), .int .i64 s, .int .i64 o, .int .i64 a, .int .i64 tag, .bool al, .bool false] 79)).drew.heap.size) := Mm.hid (Nat.lt_of_lt_of_le lg FA.out.size)
        have NE : Hid ((Value.slice A len c).ownBlock ≠ some (r + 1)) := fun e => by have := (OT.out.lt _ e).1; omega
        clear hone
        go_region_law ((refine step_ape1 B rfl (.tmp 73) (.tmp 75) 58 79 (.agg #[.int .i64 0, .int .i64 0, .int .i64 0, .int .i64 0, .int .i64 0, .int .i64 0, .bool false, .bool false]) 8 56 #[.int .i64 (i : Nat), .int .i64 (k : Nat), .int .i64 s, .int .i64 o, .int .i64 a, .int .i64 tag, .bool al, .bool false] W5.heap.size rfl Try.underlying58 info79 rfl (by decide) (by decide) (.slice A len c) len _ rfl rfl (BX.out.keep rfl) rfl HO.out OT.out HSB.out (by omega) ?_; intro v1 w6 k1 k3 k4; have hb1 := (H5.out.box.keep GK.out).keep (k3.block (r + 1) lg2.out (fun e => NE.out e.symm)); have d8 : w6.cell? ⟨r + 1, 3, none⟩ = some (.slice A R.ds.length c) := hb1.cell 3; have d9 : w6.frozen? ⟨r + 1, 3, none⟩ = false := hb1.free 3; have K1 := Mm.hid k1; have K3 := Mm.hid k3; have K4 := Mm.hid k4; clear k1 k3 k4 hb1; obtain ⟨A1, c1', hv, _⟩ := own_slice K1.out; subst hv))
        all_goals go_wp2
        all_goals go_end0
        all_goals
          have P := push_fin (d := ⟨i, k, s, o, a, tag, al, false⟩) H5.out LN.out FA.out K1.out (by rw [LN.out]; exact K3.out)
          refine ⟨rfl, _, _, P.1, SF.out, (F5.out.mono (T := RX r _) fun _ h => h.elim).trans P.2 fun g _ e => e, fun b hb => ?_⟩
          rcases K4.out with h | h
          · exact .inl (by rw [← hb, h, LN.out])
          · right
            rw [hb] at h
            injection h with h
            have := FA.out.size
            omega
    · obtain rfl : k = n := by omega
      obtain ⟨sf, hall⟩ := sim_full (n := k) (tag := tag) (al := al) SM.out OK.out J.out (by rw [HI.out]; exact HR.out) (by rw [HI.out]; exact HK.out)
      rw [HI.out] at sf
      have SF := Mm.hid sf
      have ALL := Mm.hid hall
      clear sf hall
      have hx : Hid (R.hands[i]? = some x) := by unfold Hid; rw [SM.out.hands, List.getElem?_map, HR.out]; rfl
      have lw : w.heap.size ≤ w2.heap.size := by omega
      have hGr : w2.heap.size ≠ r + 1 ∧ w2.heap.size ≠ r ∧ ∀ b, (Value.slice A R.ds.length c).ownBlock = some b → b ≠ w2.heap.size := by
        have q1 := H2.out.box.lt
        have q2 := H2.out.hands.lt
        exact ⟨by omega, by omega, fun b hb => by have := (H2.out.list.lt b hb).2; omega⟩
      have GR := Mm.hid hGr
      have iL : (i : Int) < (S.rows.length : Int) := by omega
      have iZ : (0 : Int) ≤ (i : Int) := by omega
      clear hGr hlt HK
      go_wp2_with fail
      go_loopw [17] (fun t wr => ∃ (t' : Nat) (l' : List Pl) (h' : Nat) (ds' : List De) (f : Nat), t' + f = k ∧ t = .int .i64 (t' : Nat) ∧
        Hid (clock k f l' h' = clock k k l x ∧ mcount l' ≤ f ∧ l'.length = k ∧ h' < k ∧ (∀ (q : Nat) (p : Pl), l'[q]? = some p → p.held = true) ∧ Rel (S.rows.set i (l', h')) ds' ∧ ds'.length = R.ds.length) ∧
        Hid (RB wr B r k ⟨R.hands.set i h', ds', R.hits, R.misses, R.ev⟩ (.slice A R.ds.length c) ∧ Fr (RX r (.slice A R.ds.length c)) w wr ∧ ∃ pl : Nat, Blk wr w2.heap.size 79 #[.int .i64 (i : Nat), .int .i64 (pl : Nat), .int .i64 s, .int .i64 o, .int .i64 a, .int .i64 tag, .bool al, .bool false])) (fun t _ => k + 1 - (intOf t).toNat)
      case atStart => exact ⟨0, l, x, R.ds, k, by omega, rfl, ⟨rfl, Nat.le_trans List.countP_le_length (Nat.le_of_eq HLX.out.1), HLX.out.1, HLX.out.2, ALL.out, by rw [set_same HR.out]; exact SM.out.rel, rfl⟩, by rw [set_same hx.out]; exact HW.out, (Fr.of_below BW.out).mono fun _ h => h.elim, 0, GW.out⟩
      case round =>
        obtain ⟨t', l', h', ds', f, htf, rfl, HP, HM⟩ := hrel
        clear HW GW BW HB
        have hh' : h' < k := HP.out.2.2.2.1
        obtain ⟨p, hp⟩ : ∃ p, l'[h']? = some p := ⟨_, List.getElem?_eq_getElem (by rw [HP.out.2.2.1]; exact hh')⟩
        have hri : (S.rows.set i (l', h'))[i]? = some (l', h') := List.getElem?_set_self hiL
        obtain ⟨q, d, hq, hd, hd1, hd2, hd3⟩ := inR_held HP.out.2.2.2.2.2.1 hri hp (HP.out.2.2.2.2.1 h' p hp)
        have hql : q < R.ds.length := by rw [← HP.out.2.2.2.2.2.2]; exact lt_of_get hd
        have HQ := Mm.hid hq
        have HD := Mm.hid hd
        have HPp := Mm.hid hp
        have HRI := Mm.hid hri
        have HD1 := Mm.hid hd1
        have HD2 := Mm.hid hd2
        have HD3 := Mm.hid hd3
        have hhl : (R.hands.set i h').length = S.rows.length := by rw [List.length_set, HL.out]
        have HHL := Mm.hid hhl
        clear hq hd hp hri hd1 hd2 hd3 hhl
        have tk : (t' : Int) ≤ (k : Int) := by omega
        have c1 : wr.cell? ⟨r + 1, 1, none⟩ = some (.int .i64 (k : Nat)) := HM.out.1.box.cell 1
        have c2 : wr.cell? ⟨r + 1, 2, none⟩ = some (.slice (some ⟨r, 0, none⟩) S.rows.length S.rows.length) := by have := HM.out.1.box.cell 2; simpa [HHL.out] using this
        have ch : wr.cell? ⟨r, i, none⟩ = some (.int .i64 (h' : Nat)) := by
          have := HM.out.1.hands.cell (sz := 1) (i := i) (j := 0) (x := h') (fun _ => rfl) (List.getElem?_set_self (by rw [HL.out]; exact hiL)) (by decide) rfl
          simpa using this
        go_wp2_with fail
        refine (in_any B r k ⟨R.hands.set i h', ds', R.hits, R.misses, R.ev⟩ _ i h' _ HM.out.1 (by show ds'.length ≤ 2048; rw [HP.out.2.2.2.2.2.2, LN.out]; exact hn)).mono ?_
        rintro e w4 ⟨rfl, hb⟩
        rw [show inR (⟨R.hands.set i h', ds', R.hits, R.misses, R.ev⟩ : RS).ds i h' = some q from HQ.out]
        obtain ⟨pl, hG0⟩ := HM.out.2.2
        have H4 := Mm.hid (HM.out.1.below hb)
        have G4 := Mm.hid (hG0.keep (hb.block _ hG0.lt))
        have F4 := Mm.hid (HM.out.2.1.trans (Fr.of_below hb) fun g _ e => e.elim)
        clear hb c1 c2 ch hG0 HM
        have g1 : w4.cell? ⟨w2.heap.size, 1, none⟩ = some (.int .i64 (pl : Nat)) := G4.out.cell 1
        have f1 : w4.frozen? ⟨w2.heap.size, 1, none⟩ = false := G4.out.free 1
        have c2 : w4.cell? ⟨r + 1, 2, none⟩ = some (.slice (some ⟨r, 0, none⟩) S.rows.length S.rows.length) := by have := H4.out.box.cell 2; simpa [HHL.out] using this
        have ch : w4.cell? ⟨r, i, none⟩ = some (.int .i64 (h' : Nat)) := by
          have := H4.out.hands.cell (sz := 1) (i := i) (j := 0) (x := h') (fun _ => rfl) (List.getElem?_set_self (by rw [HL.out]; exact hiL)) (by decide) rfl
          simpa using this
        have H5 : Hid (RB (w4.setCell ⟨w2.heap.size, 1, none⟩ (.int .i64 (h' : Nat))) B r k ⟨R.hands.set i h', ds', R.hits, R.misses, R.ev⟩ (.slice A R.ds.length c)) := H4.out.keep (Fr.setCell w4 ⟨w2.heap.size, 1, none⟩ _) (fun e => GR.out.1 e.symm) (fun e => GR.out.2.1 e.symm) (fun b hb e => GR.out.2.2 b hb e)
        have G5 : Hid (Blk (w4.setCell ⟨w2.heap.size, 1, none⟩ (.int .i64 (h' : Nat))) w2.heap.size 79 #[.int .i64 (i : Nat), .int .i64 (h' : Nat), .int .i64 s, .int .i64 o, .int .i64 a, .int .i64 tag, .bool al, .bool false]) := G4.out.set 1 (.int .i64 (h' : Nat))
        have F5 : Hid (Fr (RX r (.slice A R.ds.length c)) w (w4.setCell ⟨w2.heap.size, 1, none⟩ (.int .i64 (h' : Nat)))) := F4.out.trans (Fr.setCell w4 ⟨w2.heap.size, 1, none⟩ (.int .i64 (h' : Nat))) fun g hg e => by have e : g = w2.heap.size := e; omega
        simp only [ofFind]
        go_wp2_with fail
        generalize w4.setCell ⟨w2.heap.size, 1, none⟩ (.int .i64 (h' : Nat)) = W5 at *
        clear g1 f1 c2 ch G4 H4 F4
        have c1 : W5.cell? ⟨r + 1, 1, none⟩ = some (.int .i64 (k : Nat)) := H5.out.box.cell 1
        have c2 : W5.cell? ⟨r + 1, 2, none⟩ = some (.slice (some ⟨r, 0, none⟩) S.rows.length S.rows.length) := by have := H5.out.box.cell 2; simpa [HHL.out] using this
        have ch : W5.cell? ⟨r, i, none⟩ = some (.int .i64 (h' : Nat)) := by
          have := H5.out.hands.cell (sz := 1) (i := i) (j := 0) (x := h') (fun _ => rfl) (List.getElem?_set_self (by rw [HL.out]; exact hiL)) (by decide) rfl
          simpa using this
        have fh : W5.frozen? ⟨r, i, none⟩ = false := H5.out.hands.free i
        have kz : ((k : Int) == 0) = false := by simp; omega
        have kz2 : ¬ (k : Int) = 0 := by omega
        have kp : (0 : Int) ≤ (h' : Int) := by omega
        have kq : (h' : Int) < (k : Int) := by omega
        have k8 : (k : Int) ≤ 8 := by omega
        have hwr : IntKind.i64.wrap ((h' : Int) + 1) = (h' : Int) + 1 := by rw [IntKind.wrap_i64]; omega
        have kN : ¬ k = 0 := by omega
        clear kz kz2
        have hm : ((h' : Int) + 1).tmod (k : Int) = (((h' + 1) % k : Nat) : Int) := rfl
        have H6 : Hid (RB (W5.setCell ⟨r, i, none⟩ (.int .i64 (((h' : Int) + 1).tmod (k : Int)))).drew B r k ⟨R.hands.set i ((h' + 1) % k), ds', R.hits, R.misses, R.ev⟩ (.slice A R.ds.length c)) := by
          have q1 : ¬ (r + 1 = r) := by omega
          refine ⟨?_, ?_, ?_, hlow⟩
          · have := (Fr.setCell W5 ⟨r, i, none⟩ (.int .i64 (((h' : Int) + 1).tmod (k : Int)))).blk H5.out.box (fun e => q1 e)
            have e1 : (R.hands.set i ((h' + 1) % k)).length = (R.hands.set i h').length := by rw [List.length_set, List.length_set]
            show Blk _ _ _ _
            rw [e1]
            exact this
          · have := H5.out.hands.set (sz := 1) (fun _ => rfl) (i := i) (j := 0) (x := h') ((h' + 1) % k) (u := .int .i64 (((h' + 1) % k : Nat))) (List.getElem?_set_self (by rw [HL.out]; exact hiL)) (by decide) rfl
            rw [List.set_set, Nat.mul_one, Nat.add_zero] at this
            exact this
          · exact ((Fr.setCell W5 ⟨r, i, none⟩ _).own H5.out.list fun b hb e => by have := (H5.out.list.lt b hb).1; have e : b = r := e; omega).drew
        have G6 : Hid (Blk (W5.setCell ⟨r, i, none⟩ (.int .i64 (((h' : Int) + 1).tmod (k : Int)))).drew w2.heap.size 79 #[.int .i64 (i : Nat), .int .i64 (h' : Nat), .int .i64 s, .int .i64 o, .int .i64 a, .int .i64 tag, .bool al, .bool false]) := (Fr.setCell W5 ⟨r, i, none⟩ (.int .i64 (((h' : Int) + 1).tmod (k : Int)))).blk G5.out (fun e => GR.out.2.1 e)
        have F6 : Hid (Fr (RX r (.slice A R.ds.length c)) w (W5.setCell ⟨r, i, none⟩ (.int .i64 (((h' : Int) + 1).tmod (k : Int)))).drew) := (F5.out.trans (Fr.setCell W5 ⟨r, i, none⟩ _) fun g _ e => .inl e).trans (Fr.drew (fun _ => False) _) fun _ _ h => h.elim
        clear hm
        go_cut [18] from 105 to 123 (fun v wc => v = .int .i64 (q : Nat) ∧ (W5.setCell ⟨r, i, none⟩ (.int .i64 (((h' : Int) + 1).tmod (k : Int)))).drew = wc)
        case first =>
          go_region_law (fail)
          all_goals go_wp2_with fail
          all_goals go_meet
          all_goals exact ⟨rfl, rfl⟩
        case rest =>
          obtain ⟨rfl, hwc⟩ := hcut
          rw [hwc] at H6 G6 F6
          clear hwc H5 G5 F5 c1 c2 ch fh hwr
          have hl6 := H6.out.list
          obtain ⟨ad, c', hv, hown, hlt6, _, e0, e1, e2, e3, e4, e5, e6, e7⟩ := rb_cells hl6 HD.out rfl
          rw [show (⟨R.hands.set i ((h' + 1) % k), ds', R.hits, R.misses, R.ev⟩ : RS).ds.length = R.ds.length from HP.out.2.2.2.2.2.2] at hv
          injection hv with hA _ hc2
          subst hA hc2
          obtain ⟨g, rfl⟩ : ∃ g, ad = ⟨g, 0, none⟩ := own_plain hl6 (by rw [show (⟨R.hands.set i ((h' + 1) % k), ds', R.hits, R.misses, R.ev⟩ : RS).ds.length = R.ds.length from HP.out.2.2.2.2.2.2])
          simp only [add_plain] at e0 e1 e2 e3 e4 e5 e6 e7
          have hge : B ≤ g := (hl6.lt _ hown).1
          have hne : ¬ g = r + 1 := by omega
          have hne' : ¬ r + 1 = g := by omega
          have c3 : wc.cell? ⟨r + 1, 3, none⟩ = some (.slice (some ⟨g, 0, none⟩) len c) := by have := H6.out.box.cell 3; rwa [LN.out] at this
          have qI : (0 : Int) ≤ (q : Int) := by omega
          have qC : (q : Int) < (len : Int) := by rw [← LN.out]; omega
          have HOw := Mm.hid hown
          have hOW : wc.ownsRow B 79 8 (.slice (some ⟨g, 0, none⟩) R.ds.length c) R.ds.length (ds'.flatMap fD) := by have := hl6; rwa [show (⟨R.hands.set i ((h' + 1) % k), ds', R.hits, R.misses, R.ev⟩ : RS).ds.length = R.ds.length from HP.out.2.2.2.2.2.2] at this
          have r7 := rb_free hOW q 7
          rw [add_plain] at r7
          have HOW := Mm.hid hOW
          clear hl6 hown hOW
          cases hmk : d.mkd
          · rw [hmk] at e7
            have HMK := Mm.hid hmk
            have r0 := rb_free0 HOW.out q
            have r1 := rb_free HOW.out q 1
            have r2 := rb_free HOW.out q 2
            have r3 := rb_free HOW.out q 3
            have r4 := rb_free HOW.out q 4
            have r5 := rb_free HOW.out q 5
            have r6 := rb_free HOW.out q 6
            simp only [add_plain] at r0 r1 r2 r3 r4 r5 r6
            have g0 : wc.cell? ⟨w2.heap.size, 0, none⟩ = some (.int .i64 (i : Nat)) := G6.out.cell 0
            have g1 : wc.cell? ⟨w2.heap.size, 1, none⟩ = some (.int .i64 (h' : Nat)) := G6.out.cell 1
            have g2 : wc.cell? ⟨w2.heap.size, 2, none⟩ = some (.int .i64 s) := G6.out.cell 2
            have g3 : wc.cell? ⟨w2.heap.size, 3, none⟩ = some (.int .i64 o) := G6.out.cell 3
            have g4 : wc.cell? ⟨w2.heap.size, 4, none⟩ = some (.int .i64 a) := G6.out.cell 4
            have g5 : wc.cell? ⟨w2.heap.size, 5, none⟩ = some (.int .i64 tag) := G6.out.cell 5
            have g6 : wc.cell? ⟨w2.heap.size, 6, none⟩ = some (.bool al) := G6.out.cell 6
            have g7 : wc.cell? ⟨w2.heap.size, 7, none⟩ = some (.bool false) := G6.out.cell 7
            have c6 : wc.cell? ⟨r + 1, 6, none⟩ = some (.int .i64 R.ev) := H6.out.box.cell 6
            have f6 : wc.frozen? ⟨r + 1, 6, none⟩ = false := H6.out.box.free 6
            have hneG : ¬ g = w2.heap.size := GR.out.2.2 _ (by have := HOw.out; exact this)
            have hneG' : ¬ w2.heap.size = g := fun e => hneG e.symm
            clear hmk
            go_wp2_with fail
            go_region_held3 (fun w' => w'.cell? ⟨r + 1, 3, none⟩ = some (.slice (some ⟨g, 0, none⟩) len c) ∧ w'.cell? ⟨w2.heap.size, 0, none⟩ = some (.int .i64 (i : Nat)) ∧ w'.cell? ⟨w2.heap.size, 1, none⟩ = some (.int .i64 (h' : Nat)) ∧ w'.cell? ⟨w2.heap.size, 2, none⟩ = some (.int .i64 s) ∧ w'.cell? ⟨w2.heap.size, 3, none⟩ = some (.int .i64 o) ∧ w'.cell? ⟨w2.heap.size, 4, none⟩ = some (.int .i64 a) ∧ w'.cell? ⟨w2.heap.size, 5, none⟩ = some (.int .i64 tag) ∧ w'.cell? ⟨w2.heap.size, 6, none⟩ = some (.bool al) ∧ w'.cell? ⟨w2.heap.size, 7, none⟩ = some (.bool false)) (go_keep) (fail)
            all_goals go_wp2
            all_goals go_end0
            all_goals
              have LN2 : ds'.length = R.ds.length := HP.out.2.2.2.2.2.2
              have Z := H6.out.store8 LN2 HD.out ⟨i, h', s, o, a, tag, al, false⟩
              simp only [add_plain] at Z
              have Z2 := Z.1.setB (R' := ⟨R.hands.set i ((h' + 1) % k), ds'.set q ⟨i, h', s, o, a, tag, al, false⟩, R.hits, R.misses, R.ev + 1⟩) 6 (.int .i64 (R.ev + 1)) rfl rfl (by simp)
              refine ⟨rfl, _, _, Z2.keep (Fr.drew (fun _ => False) _) (fun h => h) (fun h => h) (fun _ _ h => h), ?_, ?_, fun b hb => .inl hb⟩
              · rw [SF.out]
                exact sim_last SM.out HR.out HP.out.1 HP.out.2.2.2.2.2.1 LN2 HD.out HD1.out HD2.out HPp.out (by rw [← HD3.out]; exact HMK.out)
              · exact ((F6.out.trans Z.2 fun _ _ e => e).trans (rx_box 6 _) fun _ _ e => e).trans (Fr.drew (fun _ => False) _) fun _ _ h => h.elim
          · rw [hmk] at e7
            have HMK := Mm.hid hmk
            clear hmk e0 e1 e2 e3 e4 e5 e6
            go_wp2
            go_roundw
            case rel =>
              have LN2 : ds'.length = R.ds.length := HP.out.2.2.2.2.2.2
              have hpm : p.marked = true := by rw [← HD3.out]; exact HMK.out
              have m1 := mcount_set HPp.out hpm
              have m2 := HP.out.2.1
              obtain ⟨f', rfl⟩ : ∃ f', f = f' + 1 := ⟨f - 1, by omega⟩
              have krel : ∀ y, Rel (S.rows.set i (l'.set h' { p with marked := false }, y)) (ds'.set q { d with mkd := false }) := by
                intro y
                have t := HP.out.2.2.2.2.2.1.set (d' := { d with mkd := false }) (y := y) HD.out rfl rfl (by rw [HD1.out]; exact HRI.out)
                have t2 : (S.rows.set i (l', h')).set d.set (l'.set d.place ({ d with mkd := false } : De).pl, y) = S.rows.set i (l'.set h' { p with marked := false }, y) := by
                  rw [HD1.out, HD2.out, List.set_set, ← HD3.out]; rfl
                rw [t2] at t
                exact t
              have ZR : RB (wc.setCell ⟨g, q * 8 + 7, none⟩ (.bool false)) B r k ⟨R.hands.set i ((h' + 1) % k), ds'.set q { d with mkd := false }, R.hits, R.misses, R.ev⟩ (.slice (some ⟨g, 0, none⟩) R.ds.length c) := by
                have H6' := H6.out
                rw [← LN2] at H6' ⊢
                have Z := H6'.setD (c := c) { d with mkd := false } (j := 7) (u := .bool false) HD.out (by decide) (by decide) rfl
                rw [add_plain] at Z
                exact Z
              refine ⟨t' + 1, l'.set h' { p with marked := false }, (h' + 1) % k, ds'.set q { d with mkd := false }, f', by omega, by go_num, ⟨by rw [← clock_step HPp.out hpm]; exact HP.out.1, by omega, by rw [List.length_set]; exact HP.out.2.2.1, Nat.mod_lt _ (by omega), ?_, krel _, by rw [List.length_set]; exact LN2⟩, ZR, ?_, h', ?_⟩
              · intro q' p' hp'
                rcases set_get hp' with ⟨_, rfl⟩ | ⟨_, hp'⟩
                · show p.held = true
                  exact HP.out.2.2.2.2.1 _ _ HPp.out
                · exact HP.out.2.2.2.2.1 _ _ hp'
              · exact F6.out.trans (Fr.setCell wc ⟨g, q * 8 + 7, none⟩ _) fun g' _ e => .inr (.inr (by rw [show g' = g from e]; exact HOw.out))
              · exact (Fr.setCell wc ⟨g, q * 8 + 7, none⟩ _).blk G6.out (fun e => by have e : w2.heap.size = g := e; exact GR.out.2.2 g HOw.out e.symm)
            case measure => simp [intOf]; omega
end Go.Proofs.Ythojgfnaanckeaa

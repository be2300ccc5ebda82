/- Walks: Get. -/
import Derived.Test.YthojgfnaanckeaaAt
import Derived.BigRegion
namespace Go.Proofs.Ythojgfnaanckeaa
open Go.RowKit Go.Mm
/-- the blocks of a cache -/
def InC (b len k : Nat) : Prop := b ≤ k ∧ k < b + 2 + len
theorem CacheB.row {w w' : World} {b n i : Nat} {S : St} {l l' : List Pl} {hand : Nat} (h : CacheB w b n S) (hr : S.rows[i]? = some (l, hand)) (hl : l'.length = l.length) (hF : Flat w' (b + 2 + i) 74 fP l')
    (hk : ∀ k, b ≤ k → k < w.heap.size → k ≠ b + 2 + i → w'.heap[k]? = w.heap[k]?) : CacheB w' b n { S with rows := S.rows.set i (l', hand) } := by
  refine ⟨?_, ?_, fun j r hj => ?_⟩
  · simp only [List.length_set]
    exact h.cache.keep (hk _ (by omega) h.cache.lt (by omega))
  · have e : (S.rows.set i (l', hand)).mapIdx (fun i r => ((some (b + 2 + i) : Option Nat), r.2)) = S.rows.mapIdx (fun i r => (some (b + 2 + i), r.2)) := by
      apply List.ext_getElem?
      intro j
      simp only [List.getElem?_mapIdx, List.getElem?_set]
      by_cases hij : i = j
      · subst hij
        obtain ⟨this, hg⟩ := List.getElem?_eq_some_iff.1 hr
        simp [this, hg]
      · simp [hij]
    show Flat w' b 66 (fQ n) ((S.rows.set i (l', hand)).mapIdx _)
    rw [e]
    exact h.sets.keep (hk _ (Nat.le_refl _) h.sets.lt (by omega))
  · simp only [List.getElem?_set] at hj
    split at hj
    · rename_i hij
      split at hj
      · cases hj
        subst hij
        exact ⟨hl.trans (h.rows _ _ hr).1, hF⟩
      · cases hj
    · obtain ⟨q1, q2⟩ := h.rows j r hj
      exact ⟨q1, q2.keep (hk _ (by omega) q2.lt (by omega))⟩
theorem CacheB.hand {w : World} {b n i : Nat} {S : St} {l : List Pl} {hand : Nat} (h : CacheB w b n S) (hr : S.rows[i]? = some (l, hand)) (hand' : Nat) :
    CacheB (w.setCell ⟨b, i * 2 + 1, none⟩ (.int .i64 (hand' : Nat))) b n { S with rows := S.rows.set i (l, hand') } := by
  have hf := Fr.setCell w ⟨b, i * 2 + 1, none⟩ (.int .i64 (hand' : Nat))
  refine ⟨?_, ?_, fun j r hj => ?_⟩
  · simp only [List.length_set]
    exact hf.blk h.cache (by show ¬ b + 1 = b; omega)
  · have e : (S.rows.set i (l, hand')).mapIdx (fun i r => ((some (b + 2 + i) : Option Nat), r.2)) = (S.rows.mapIdx (fun i r => (some (b + 2 + i), r.2))).set i (some (b + 2 + i), hand') := by
      apply List.ext_getElem?
      intro j
      simp only [List.getElem?_mapIdx, List.getElem?_set, List.length_mapIdx]
      by_cases hij : i = j
      · subst hij
        have := (List.getElem?_eq_some_iff.1 hr).1
        simp [this]
      · simp [hij]
    show Flat _ b 66 (fQ n) ((S.rows.set i (l, hand')).mapIdx _)
    rw [e]
    exact h.sets.set (fQ_len n) (i := i) (j := 1) (x := (some (b + 2 + i), hand)) _ (by rw [List.getElem?_mapIdx, hr]; rfl) (by decide) rfl
  · simp only [List.getElem?_set] at hj
    split at hj
    · rename_i hij
      split at hj
      · cases hj
        subst hij
        obtain ⟨q1, q2⟩ := h.rows _ _ hr
        exact ⟨q1, hf.blk q2 (by show ¬ b + 2 + i = b; omega)⟩
      · cases hj
    · obtain ⟨q1, q2⟩ := h.rows j r hj
      exact ⟨q1, hf.blk q2 (by show ¬ b + 2 + j = b; omega)⟩
theorem CacheB.stat {w w' : World} {b n : Nat} {S : St} (h : CacheB w b n S) (x y z u : Int) (hB : Blk w' (b + 1) 63 #[.slice (some ⟨b, 0, none⟩) S.rows.length S.rows.length, .int .i64 x, .int .i64 y, .int .i64 z, .int .i64 u])
    (hk : ∀ k, b ≤ k → k < w.heap.size → k ≠ b + 1 → w'.heap[k]? = w.heap[k]?) : CacheB w' b n { S with hits := x, misses := y, ev := z, held := u } :=
  ⟨hB, h.sets.keep (hk _ (Nat.le_refl _) h.sets.lt (by omega)), fun i r hi => ⟨(h.rows i r hi).1, (h.rows i r hi).2.keep (hk _ (by omega) (h.rows i r hi).2.lt (by omega))⟩⟩
theorem CacheB.hits {w : World} {b n : Nat} {S : St} (h : CacheB w b n S) (x : Int) : CacheB (w.setCell ⟨b + 1, 1, none⟩ (.int .i64 x)) b n { S with hits := x } :=
  h.stat x S.misses S.ev S.held (h.cache.set 1 _) fun k _ hk hne => Fr.block (Fr.setCell w ⟨b + 1, 1, none⟩ _) k hk hne
theorem CacheB.misses {w : World} {b n : Nat} {S : St} (h : CacheB w b n S) (x : Int) : CacheB (w.setCell ⟨b + 1, 2, none⟩ (.int .i64 x)) b n { S with misses := x } :=
  h.stat S.hits x S.ev S.held (h.cache.set 2 _) fun k _ hk hne => Fr.block (Fr.setCell w ⟨b + 1, 2, none⟩ _) k hk hne
theorem CacheB.ev {w : World} {b n : Nat} {S : St} (h : CacheB w b n S) (x : Int) : CacheB (w.setCell ⟨b + 1, 3, none⟩ (.int .i64 x)) b n { S with ev := x } :=
  h.stat S.hits S.misses x S.held (h.cache.set 3 _) fun k _ hk hne => Fr.block (Fr.setCell w ⟨b + 1, 3, none⟩ _) k hk hne
theorem CacheB.held {w : World} {b n : Nat} {S : St} (h : CacheB w b n S) (x : Int) : CacheB (w.setCell ⟨b + 1, 4, none⟩ (.int .i64 x)) b n { S with held := x } :=
  h.stat S.hits S.misses S.ev x (h.cache.set 4 _) fun k _ hk hne => Fr.block (Fr.setCell w ⟨b + 1, 4, none⟩ _) k hk hne
/-- a cell of a place turned -/
theorem CacheB.cellset {w : World} {b n i k j : Nat} {S : St} {l : List Pl} {hand : Nat} {p : Pl} (h : CacheB w b n S) (hr : S.rows[i]? = some (l, hand)) (hp : l[k]? = some p) (q : Pl) (u : Value) (hj : j < 7) (hq : fP q = (fP p).set j u) :
    CacheB (w.setCell ⟨b + 2 + i, k * 7 + j, none⟩ u) b n { S with rows := S.rows.set i (l.set k q, hand) } :=
  h.row hr (by simp) ((h.rows i _ hr).2.set fP_len q hp hj hq) fun m _ hm hne => Fr.block (Fr.setCell w ⟨b + 2 + i, k * 7 + j, none⟩ u) m hm hne
/-- a place written whole -/
def setPl (w : World) (g k : Nat) (q : Pl) : World :=
  ((((((w.setCell ⟨g, k * 7, none⟩ (.bool q.held)).setCell ⟨g, k * 7 + 1, none⟩ (.int .i64 q.s)).setCell ⟨g, k * 7 + 2, none⟩ (.int .i64 q.o)).setCell ⟨g, k * 7 + 3, none⟩ (.int .i64 q.a)).setCell ⟨g, k * 7 + 4, none⟩ (.int .i64 q.tag)).setCell ⟨g, k * 7 + 5, none⟩ (.bool q.allowed)).setCell ⟨g, k * 7 + 6, none⟩ (.bool q.marked)
theorem Flat.whole {w : World} {g k : Nat} {l : List Pl} {p : Pl} (F : Flat w g 74 fP l) (hp : l[k]? = some p) (q : Pl) : Flat (setPl w g k q) g 74 fP (l.set k q) := by
  have hk := (List.getElem?_eq_some_iff.1 hp).1
  have get : ∀ (l' : List Pl) (x : Pl), l'.length = l.length → (l'.set k x)[k]? = some x := fun l' x hl => by rw [List.getElem?_set_self]; omega
  have h0 := F.set fP_len (j := 0) (u := .bool q.held) { p with held := q.held } hp (by decide) rfl
  have h1 := h0.set fP_len (j := 1) (u := .int .i64 q.s) { p with held := q.held, s := q.s } (get _ _ rfl) (by decide) rfl
  rw [List.set_set] at h1
  have h2 := h1.set fP_len (j := 2) (u := .int .i64 q.o) { p with held := q.held, s := q.s, o := q.o } (get _ _ rfl) (by decide) rfl
  rw [List.set_set] at h2
  have h3 := h2.set fP_len (j := 3) (u := .int .i64 q.a) { p with held := q.held, s := q.s, o := q.o, a := q.a } (get _ _ rfl) (by decide) rfl
  rw [List.set_set] at h3
  have h4 := h3.set fP_len (j := 4) (u := .int .i64 q.tag) { p with held := q.held, s := q.s, o := q.o, a := q.a, tag := q.tag } (get _ _ rfl) (by decide) rfl
  rw [List.set_set] at h4
  have h5 := h4.set fP_len (j := 5) (u := .bool q.allowed) { p with held := q.held, s := q.s, o := q.o, a := q.a, tag := q.tag, allowed := q.allowed } (get _ _ rfl) (by decide) rfl
  rw [List.set_set] at h5
  have h6 := h5.set fP_len (j := 6) (u := .bool q.marked) q (get _ _ rfl) (by decide) rfl
  rw [List.set_set] at h6
  exact h6
theorem setPl_fr (w : World) (g k : Nat) (q : Pl) : Fr (· = g) w (setPl w g k q) := by
  have t : ∀ (w0 w1 : World) (p : Addr) (u : Value), Fr (· = g) w0 w1 → p.block = g → Fr (· = g) w0 (w1.setCell p u) := fun w0 w1 p u h hp => h.trans (Fr.setCell w1 p u) fun _ _ e => e.trans hp
  exact t _ _ _ _ (t _ _ _ _ (t _ _ _ _ (t _ _ _ _ (t _ _ _ _ (t _ _ _ _ (t _ _ _ _ (Fr.refl _ w) rfl) rfl) rfl) rfl) rfl) rfl) rfl
theorem CacheB.whole {w : World} {b n i k : Nat} {S : St} {l : List Pl} {hand : Nat} {p : Pl} (h : CacheB w b n S) (hr : S.rows[i]? = some (l, hand)) (hp : l[k]? = some p) (q : Pl) :
    CacheB (setPl w (b + 2 + i) k q) b n { S with rows := S.rows.set i (l.set k q, hand) } :=
  h.row hr (by simp) (Flat.whole (h.rows i _ hr).2 hp q) fun m _ hm hne => (setPl_fr w _ k q).block m hm hne
theorem _root_.Go.Mm.Fr.pl {S : Nat → Prop} {w w1 : World} {g k : Nat} (h : Fr S w w1) (q : Pl) (hp : S g) : Fr S w (setPl w1 g k q) :=
  h.trans (setPl_fr w1 g k q) fun _ _ e => e ▸ hp
theorem _root_.Go.Mm.Fr.inC {w w1 : World} {b len : Nat} (h : Fr (fun _ => False) w w1) : Fr (InC b len) w w1 := h.mono fun _ h => h.elim
theorem _root_.Go.Mm.Fr.set {S : Nat → Prop} {w w1 : World} (h : Fr S w w1) {p : Addr} (u : Value) (hp : S p.block) : Fr S w (w1.setCell p u) :=
  h.trans (Fr.setCell w1 p u) fun _ _ e => e ▸ hp
def GetEnds (b n : Nat) (S : St) (x y : Bool) (S' : St) (w : World) (e : Ending) (w' : World) : Prop :=
  e = .returned (.tuple #[.bool x, .bool y]) ∧ CacheB w' b n S' ∧ Fr (InC b S.rows.length) w w'
set_option maxHeartbeats 2000000 in
theorem get_hit (b n : Nat) (S : St) (tag s o a : Int) (i k : Nat) (l : List Pl) (hand : Nat) (p : Pl) (w : World) (h : CacheB w b n S) (hl : 1 ≤ S.rows.length) (hl' : S.rows.length ≤ 256) (hn : n ≤ 8) (hi : spot S.rows.length s o a = i) (hr : S.rows[i]? = some (l, hand))
    (hf : find l s o a = some k) (hp : l[k]? = some p) (ht : p.tag = tag) (hh : 0 ≤ S.hits ∧ S.hits < 9223372036854775807) :
    Calls Try.prog 19 #[.pointer (some ⟨b + 1, 0, none⟩), .int .i64 tag, .int .i64 s, .int .i64 o, .int .i64 a] w (GetEnds b n S p.allowed true { S with rows := S.rows.set i (l.set k { p with marked := true }, hand), hits := S.hits + 1 } w) := by
  obtain ⟨ph, ps, po, pa, pt, pal, pm⟩ := p
  simp only at ht
  subst ht
  have C := Mm.hid h
  have hilt : i < S.rows.length := (List.getElem?_eq_some_iff.1 hr).1
  have hklt : k < l.length := (List.getElem?_eq_some_iff.1 hp).1
  have R := Mm.hid hr
  have I := Mm.hid hi
  have FD := Mm.hid hf
  have P := Mm.hid hp
  have LL := Mm.hid (h.rows i _ hr).1
  have hkn : k < n := by rw [← LL.out]; exact hklt
  have b1 := h.cache.lt
  have b2 := (h.rows i _ hr).2.lt
  clear h hr hi hf hp hklt
  go_enter Try.func19, Try.ntmps19
  go_wp2_with fail
  refine (at_any b n S s o a i l hand _ C.out hl hl' hn I.out R.out).mono ?_
  rintro e w1 ⟨rfl, hb⟩
  rw [FD.out]
  have C1 := Mm.hid (C.out.below hb)
  have F1 := Mm.hid (Fr.of_below hb)
  have hsz := hb.size
  clear hb
  have c0 : w1.cell? ⟨b, i * 2, none⟩ = some (.slice (some ⟨b + 2 + i, 0, none⟩) n n) := C1.out.sets.cell (fQ_len n) (i := i) (j := 0) (by rw [List.getElem?_mapIdx, R.out]; rfl) (by decide) rfl
  have c1 : w1.cell? ⟨b + 1, 1, none⟩ = some (.int .i64 S.hits) := C1.out.cache.cell 1
  have c2 : w1.frozen? ⟨b + 1, 1, none⟩ = false := C1.out.cache.free 1
  have f4 : w1.cell? ⟨b + 2 + i, k * 7 + 4, none⟩ = some (.int .i64 pt) := ((C1.out.rows i _ R.out).2).cell fP_len P.out (j := 4) (by decide) rfl
  have f5 : w1.cell? ⟨b + 2 + i, k * 7 + 5, none⟩ = some (.bool pal) := ((C1.out.rows i _ R.out).2).cell fP_len P.out (j := 5) (by decide) rfl
  have f6 : w1.cell? ⟨b + 2 + i, k * 7 + 6, none⟩ = some (.bool pm) := ((C1.out.rows i _ R.out).2).cell fP_len P.out (j := 6) (by decide) rfl
  have f7 : w1.frozen? ⟨b + 2 + i, k * 7 + 6, none⟩ = false := ((C1.out.rows i _ R.out).2).free _
  simp only [ofFind]
  go_wp2
  go_ret2
  refine ⟨rfl, ((C1.out.cellset R.out P.out ⟨ph, ps, po, pa, pt, pal, true⟩ (.bool true) (by decide) rfl).hits (S.hits + 1)), ?_⟩
  exact ((F1.out.inC).set (p := ⟨b + 2 + i, k * 7 + 6, none⟩) _ ⟨by show b ≤ b + 2 + i; omega, by show b + 2 + i < _; omega⟩).set (p := ⟨b + 1, 1, none⟩) _ ⟨by show b ≤ b + 1; omega, by show b + 1 < _; omega⟩
set_option maxHeartbeats 2000000 in
theorem get_other (b n : Nat) (S : St) (tag s o a : Int) (i k : Nat) (l : List Pl) (hand : Nat) (p : Pl) (w : World) (h : CacheB w b n S) (hl : 1 ≤ S.rows.length) (hl' : S.rows.length ≤ 256) (hn : n ≤ 8) (hi : spot S.rows.length s o a = i) (hr : S.rows[i]? = some (l, hand))
    (hf : find l s o a = some k) (hp : l[k]? = some p) (ht : p.tag ≠ tag) (hh : 0 ≤ S.misses ∧ S.misses < 9223372036854775807) (hh' : -9223372036854775808 < S.held ∧ S.held ≤ 9223372036854775807) :
    Calls Try.prog 19 #[.pointer (some ⟨b + 1, 0, none⟩), .int .i64 tag, .int .i64 s, .int .i64 o, .int .i64 a] w (GetEnds b n S false false { S with rows := S.rows.set i (l.set k Pl.none, hand), misses := S.misses + 1, held := S.held - 1 } w) := by
  obtain ⟨ph, ps, po, pa, pt, pal, pm⟩ := p
  simp only at ht
  have htt : (pt == tag) = false := beq_eq_false_iff_ne.2 ht
  clear ht
  have C := Mm.hid h
  have hilt : i < S.rows.length := (List.getElem?_eq_some_iff.1 hr).1
  have hklt : k < l.length := (List.getElem?_eq_some_iff.1 hp).1
  have R := Mm.hid hr
  have I := Mm.hid hi
  have FD := Mm.hid hf
  have P := Mm.hid hp
  have LL := Mm.hid (h.rows i _ hr).1
  have hkn : k < n := by rw [← LL.out]; exact hklt
  have b1 := h.cache.lt
  have b2 := (h.rows i _ hr).2.lt
  clear h hr hi hf hp hklt
  go_enter Try.func19, Try.ntmps19
  go_wp2_with fail
  refine (at_any b n S s o a i l hand _ C.out hl hl' hn I.out R.out).mono ?_
  rintro e w1 ⟨rfl, hb⟩
  rw [FD.out]
  have C1 := Mm.hid (C.out.below hb)
  have F1 := Mm.hid (Fr.of_below hb)
  have hsz := hb.size
  clear hb
  have c0 : w1.cell? ⟨b, i * 2, none⟩ = some (.slice (some ⟨b + 2 + i, 0, none⟩) n n) := C1.out.sets.cell (fQ_len n) (i := i) (j := 0) (by rw [List.getElem?_mapIdx, R.out]; rfl) (by decide) rfl
  have c1 : w1.cell? ⟨b + 1, 2, none⟩ = some (.int .i64 S.misses) := C1.out.cache.cell 2
  have c2 : w1.frozen? ⟨b + 1, 2, none⟩ = false := C1.out.cache.free 2
  have c3 : w1.cell? ⟨b + 1, 4, none⟩ = some (.int .i64 S.held) := C1.out.cache.cell 4
  have c4 : w1.frozen? ⟨b + 1, 4, none⟩ = false := C1.out.cache.free 4
  have f0 : w1.cell? ⟨b + 2 + i, k * 7, none⟩ = some (.bool ph) := ((C1.out.rows i _ R.out).2).cell fP_len P.out (j := 0) (by decide) rfl
  have f1 : w1.cell? ⟨b + 2 + i, k * 7 + 1, none⟩ = some (.int .i64 ps) := ((C1.out.rows i _ R.out).2).cell fP_len P.out (j := 1) (by decide) rfl
  have f2 : w1.cell? ⟨b + 2 + i, k * 7 + 2, none⟩ = some (.int .i64 po) := ((C1.out.rows i _ R.out).2).cell fP_len P.out (j := 2) (by decide) rfl
  have f3 : w1.cell? ⟨b + 2 + i, k * 7 + 3, none⟩ = some (.int .i64 pa) := ((C1.out.rows i _ R.out).2).cell fP_len P.out (j := 3) (by decide) rfl
  have f4 : w1.cell? ⟨b + 2 + i, k * 7 + 4, none⟩ = some (.int .i64 pt) := ((C1.out.rows i _ R.out).2).cell fP_len P.out (j := 4) (by decide) rfl
  have f5 : w1.cell? ⟨b + 2 + i, k * 7 + 5, none⟩ = some (.bool pal) := ((C1.out.rows i _ R.out).2).cell fP_len P.out (j := 5) (by decide) rfl
  have f6 : w1.cell? ⟨b + 2 + i, k * 7 + 6, none⟩ = some (.bool pm) := ((C1.out.rows i _ R.out).2).cell fP_len P.out (j := 6) (by decide) rfl
  have z0 : w1.frozen? ⟨b + 2 + i, k * 7, none⟩ = false := ((C1.out.rows i _ R.out).2).free _
  have z1 : w1.frozen? ⟨b + 2 + i, k * 7 + 1, none⟩ = false := ((C1.out.rows i _ R.out).2).free _
  have z2 : w1.frozen? ⟨b + 2 + i, k * 7 + 2, none⟩ = false := ((C1.out.rows i _ R.out).2).free _
  have z3 : w1.frozen? ⟨b + 2 + i, k * 7 + 3, none⟩ = false := ((C1.out.rows i _ R.out).2).free _
  have z4 : w1.frozen? ⟨b + 2 + i, k * 7 + 4, none⟩ = false := ((C1.out.rows i _ R.out).2).free _
  have z5 : w1.frozen? ⟨b + 2 + i, k * 7 + 5, none⟩ = false := ((C1.out.rows i _ R.out).2).free _
  have z6 : w1.frozen? ⟨b + 2 + i, k * 7 + 6, none⟩ = false := ((C1.out.rows i _ R.out).2).free _
  simp only [ofFind]
  go_wp2
  go_ret2
  refine ⟨rfl, ((C1.out.misses (S.misses + 1)).whole (k := k) R.out P.out Pl.none).held (S.held - 1), ?_⟩
  exact (((F1.out.inC).set (p := ⟨b + 1, 2, none⟩) _ ⟨by show b ≤ b + 1; omega, by show b + 1 < _; omega⟩).pl (g := b + 2 + i) (k := k) Pl.none ⟨by omega, by omega⟩).set (p := ⟨b + 1, 4, none⟩) _ ⟨by show b ≤ b + 1; omega, by show b + 1 < _; omega⟩
set_option maxHeartbeats 2000000 in
theorem get_none (b n : Nat) (S : St) (tag s o a : Int) (i : Nat) (l : List Pl) (hand : Nat) (w : World) (h : CacheB w b n S) (hl : 1 ≤ S.rows.length) (hl' : S.rows.length ≤ 256) (hn : n ≤ 8) (hi : spot S.rows.length s o a = i) (hr : S.rows[i]? = some (l, hand))
    (hf : find l s o a = none) (hh : 0 ≤ S.misses ∧ S.misses < 9223372036854775807) :
    Calls Try.prog 19 #[.pointer (some ⟨b + 1, 0, none⟩), .int .i64 tag, .int .i64 s, .int .i64 o, .int .i64 a] w (GetEnds b n S false false { S with misses := S.misses + 1 } w) := by
  have C := Mm.hid h
  have hilt : i < S.rows.length := (List.getElem?_eq_some_iff.1 hr).1
  have R := Mm.hid hr
  have I := Mm.hid hi
  have FD := Mm.hid hf
  have LL := Mm.hid (h.rows i _ hr).1
  have b1 := h.cache.lt
  have b2 := (h.rows i _ hr).2.lt
  clear h hr hi hf
  go_enter Try.func19, Try.ntmps19
  go_wp2_with fail
  refine (at_any b n S s o a i l hand _ C.out hl hl' hn I.out R.out).mono ?_
  rintro e w1 ⟨rfl, hb⟩
  rw [FD.out]
  have C1 := Mm.hid (C.out.below hb)
  have F1 := Mm.hid (Fr.of_below hb)
  have hsz := hb.size
  clear hb
  have c1 : w1.cell? ⟨b + 1, 2, none⟩ = some (.int .i64 S.misses) := C1.out.cache.cell 2
  have c2 : w1.frozen? ⟨b + 1, 2, none⟩ = false := C1.out.cache.free 2
  simp only [ofFind]
  go_wp2
  go_ret2
  refine ⟨rfl, C1.out.misses (S.misses + 1), ?_⟩
  exact ((F1.out.inC).set (p := ⟨b + 1, 2, none⟩) _ ⟨by show b ≤ b + 1; omega, by show b + 1 < _; omega⟩)
end Go.Proofs.Ythojgfnaanckeaa

/- Walks: Put, where there is a place. -/
import Derived.Test.YthojgfnaanckeaaGet
namespace Go.Proofs.Ythojgfnaanckeaa
open Go.RowKit Go.Mm
theorem CacheB.drew {w : World} {b n : Nat} {S : St} (h : CacheB w b n S) : CacheB w.drew b n S := h.keep fun _ _ _ => rfl
def PutEnds (b n : Nat) (S : St) (S' : St) (w : World) (e : Ending) (w' : World) : Prop :=
  e = .returned (.tuple #[]) ∧ CacheB w' b n S' ∧ Fr (InC b S.rows.length) w w'
set_option maxHeartbeats 2000000 in
theorem put_again (b n : Nat) (S : St) (tag s o a : Int) (al : Bool) (i k : Nat) (l : List Pl) (hand : Nat) (p : Pl) (w : World) (h : CacheB w b n S) (hl : 1 ≤ S.rows.length) (hl' : S.rows.length ≤ 256) (hn : n ≤ 8) (hi : spot S.rows.length s o a = i) (hr : S.rows[i]? = some (l, hand))
    (hf : find l s o a = some k) (hp : l[k]? = some p) :
    Calls Try.prog 18 #[.pointer (some ⟨b + 1, 0, none⟩), .int .i64 tag, .int .i64 s, .int .i64 o, .int .i64 a, .bool al] w (PutEnds b n S { S with rows := S.rows.set i (l.set k { p with tag := tag, allowed := al }, hand) } w) := by
  obtain ⟨ph, ps, po, pa, pt, pal, pm⟩ := p
  have C0 := h
  have hilt : i < S.rows.length := (List.getElem?_eq_some_iff.1 hr).1
  have hklt : k < l.length := (List.getElem?_eq_some_iff.1 hp).1
  have R := Mm.hid hr
  have I := Mm.hid hi
  have FD := Mm.hid hf
  have P := Mm.hid hp
  have LL := Mm.hid (h.rows i _ hr).1
  have hkn : k < n := by rw [← LL.out]; exact hklt
  have b1 := h.cache.lt
  have b2 := (h.rows i _ hr).2.lt
  have C := Mm.hid (h.below ((Below.refl w.heap.size w).alloc (Nat.le_refl _) (.cells #[.int .i64 s, .int .i64 o, .int .i64 a] 69)))
  have F0 := Mm.hid (Fr.alloc (fun _ => False) w (.cells #[.int .i64 s, .int .i64 o, .int .i64 a] 69))
  clear h hr hi hf hp hklt C0
  go_enter Try.func18, Try.ntmps18
  go_wp2_with fail
  refine (at_any b n S s o a i l hand _ (by exact C.out) hl hl' hn I.out R.out).mono ?_
  rintro e w1 ⟨rfl, hb⟩
  rw [FD.out]
  have C1 := Mm.hid (C.out.below hb)
  have F1 := Mm.hid (F0.out.trans (Fr.of_below hb) fun _ _ h => h)
  have hsz := F1.out.size
  clear hb C F0
  have c0 : w1.cell? ⟨b, i * 2, none⟩ = some (.slice (some ⟨b + 2 + i, 0, none⟩) n n) := C1.out.sets.cell (fQ_len n) (i := i) (j := 0) (by rw [List.getElem?_mapIdx, R.out]; rfl) (by decide) rfl
  have f4 : w1.cell? ⟨b + 2 + i, k * 7 + 4, none⟩ = some (.int .i64 pt) := ((C1.out.rows i _ R.out).2).cell fP_len P.out (j := 4) (by decide) rfl
  have f5 : w1.cell? ⟨b + 2 + i, k * 7 + 5, none⟩ = some (.bool pal) := ((C1.out.rows i _ R.out).2).cell fP_len P.out (j := 5) (by decide) rfl
  have z4 : w1.frozen? ⟨b + 2 + i, k * 7 + 4, none⟩ = false := ((C1.out.rows i _ R.out).2).free _
  have z5 : w1.frozen? ⟨b + 2 + i, k * 7 + 5, none⟩ = false := ((C1.out.rows i _ R.out).2).free _
  simp only [ofFind]
  go_wp2_with fail
  go_region
  all_goals go_wp2
  go_end0
  have key := C1.out.cellset R.out P.out ⟨ph, ps, po, pa, tag, pal, pm⟩ (.int .i64 tag) (j := 4) (by decide) rfl
  have r2 : (S.rows.set i (l.set k ⟨ph, ps, po, pa, tag, pal, pm⟩, hand))[i]? = some (l.set k ⟨ph, ps, po, pa, tag, pal, pm⟩, hand) := by rw [List.getElem?_set_self hilt]
  have p2 : (l.set k ⟨ph, ps, po, pa, tag, pal, pm⟩)[k]? = some ⟨ph, ps, po, pa, tag, pal, pm⟩ := by rw [List.getElem?_set_self (List.getElem?_eq_some_iff.1 P.out).1]
  have key2 := key.cellset r2 p2 ⟨ph, ps, po, pa, tag, al, pm⟩ (.bool al) (j := 5) (by decide) rfl
  simp only [List.set_set] at key2
  exact ⟨rfl, key2.keep (fun _ _ _ => rfl), ((((F1.out.inC).set (p := ⟨b + 2 + i, k * 7 + 4, none⟩) _ ⟨by show b ≤ b + 2 + i; omega, by show b + 2 + i < _; omega⟩).set (p := ⟨b + 2 + i, k * 7 + 5, none⟩) _ ⟨by show b ≤ b + 2 + i; omega, by show b + 2 + i < _; omega⟩).trans (Fr.drew (InC b S.rows.length) _) fun _ _ h => h)⟩
def Pl.isNone (p : Pl) : Bool := p.held == false && ((p.s == 0 && (p.o == 0 && p.a == 0)) && (p.tag == 0 && (p.allowed == false && p.marked == false)))
theorem Pl.isNone_iff (p : Pl) : p.isNone = true ↔ p = Pl.none := by
  obtain ⟨ph, ps, po, pa, pt, pal, pm⟩ := p
  simp only [Pl.isNone, Pl.none, Bool.and_eq_true, beq_iff_eq, Pl.mk.injEq]
  constructor
  · rintro ⟨a, ⟨b, c, d⟩, e, f, g⟩; exact ⟨a, b, c, d, e, f, g⟩
  · rintro ⟨a, b, c, d, e, f, g⟩; exact ⟨a, ⟨b, c, d⟩, e, f, g⟩
theorem eqNone (p : Pl) (r : Bool) (h : p.isNone = r) (W : World) :
    (Op.equalIn 10000 74 (.agg #[.bool p.held, .int .i64 p.s, .int .i64 p.o, .int .i64 p.a, .int .i64 p.tag, .bool p.allowed, .bool p.marked]) (.agg #[.bool false, .int .i64 0, .int .i64 0, .int .i64 0, .int .i64 0, .bool false, .bool false])).run Try.prog W = .ok r W :=
  eq74' p Pl.none r h W
set_option maxHeartbeats 2000000 in
theorem put_free (b n : Nat) (S : St) (tag s o a : Int) (al : Bool) (i : Nat) (l : List Pl) (hand : Nat) (w : World) (h : CacheB w b n S) (hl : 1 ≤ S.rows.length) (hl' : S.rows.length ≤ 256) (hn : n ≤ 8) (hi : spot S.rows.length s o a = i) (hr : S.rows[i]? = some (l, hand))
    (hf : find l s o a = none) (k : Nat) (hk : l.findIdx? Pl.isNone = some k) (hh : -9223372036854775808 ≤ S.held ∧ S.held < 9223372036854775807) :
    Calls Try.prog 18 #[.pointer (some ⟨b + 1, 0, none⟩), .int .i64 tag, .int .i64 s, .int .i64 o, .int .i64 a, .bool al] w (PutEnds b n S { S with rows := S.rows.set i (l.set k ⟨true, s, o, a, tag, al, false⟩, hand), held := S.held + 1 } w) := by
  have KK := Mm.hid hk
  clear hk
  have C0 := h
  have hilt : i < S.rows.length := (List.getElem?_eq_some_iff.1 hr).1
  have R := Mm.hid hr
  have I := Mm.hid hi
  have FD := Mm.hid hf
  have LL := Mm.hid (h.rows i _ hr).1
  have b1 := h.cache.lt
  have b2 := (h.rows i _ hr).2.lt
  have C := Mm.hid (h.below ((Below.refl w.heap.size w).alloc (Nat.le_refl _) (.cells #[.int .i64 s, .int .i64 o, .int .i64 a] 69)))
  have F0 := Mm.hid (Fr.alloc (fun _ => False) w (.cells #[.int .i64 s, .int .i64 o, .int .i64 a] 69))
  clear h hr hi hf C0
  go_enter Try.func18, Try.ntmps18
  go_wp2_with fail
  refine (at_any b n S s o a i l hand _ (by exact C.out) hl hl' hn I.out R.out).mono ?_
  rintro e w1 ⟨rfl, hb⟩
  rw [FD.out]
  have C1 := Mm.hid (C.out.below hb)
  have F1 := Mm.hid (F0.out.trans (Fr.of_below hb) fun _ _ h => h)
  have hsz := F1.out.size
  have hsz2 : w.heap.size < w1.heap.size := by have := hb.size; simp at this; omega
  have X1 := Mm.hid ((Blk.new w #[.int .i64 s, .int .i64 o, .int .i64 a] 69).keep (hb.block _ (by simp)))
  have e1 : w1.cell? ⟨w.heap.size, 0, none⟩ = some (.int .i64 s) := X1.out.cell 0
  have e2 : w1.cell? ⟨w.heap.size, 1, none⟩ = some (.int .i64 o) := X1.out.cell 1
  have e3 : w1.cell? ⟨w.heap.size, 2, none⟩ = some (.int .i64 a) := X1.out.cell 2
  clear hb C F0
  have FB := Mm.hid (Blk.new w1 #[.bool true, .int .i64 s, .int .i64 o, .int .i64 a, .int .i64 tag, .bool al, .bool false] 74)
  have CF := Mm.hid (C1.out.below ((Below.refl w1.heap.size w1).alloc (Nat.le_refl _) (.cells #[.bool true, .int .i64 s, .int .i64 o, .int .i64 a, .int .i64 tag, .bool al, .bool false] 74)))
  have d0 : (w1.alloc (.cells #[.bool true, .int .i64 s, .int .i64 o, .int .i64 a, .int .i64 tag, .bool al, .bool false] 74)).cell? ⟨b, i * 2, none⟩ = some (.slice (some ⟨b + 2 + i, 0, none⟩) n n) := CF.out.sets.cell (fQ_len n) (i := i) (j := 0) (by rw [List.getElem?_mapIdx, R.out]; rfl) (by decide) rfl
  have c0 : w1.cell? ⟨b, i * 2, none⟩ = some (.slice (some ⟨b + 2 + i, 0, none⟩) n n) := C1.out.sets.cell (fQ_len n) (i := i) (j := 0) (by rw [List.getElem?_mapIdx, R.out]; rfl) (by decide) rfl
  simp only [ofFind]
  go_wp2_with fail
  clear d0 c0 e1 e2 e3
  go_loopw [16, 17, 55] (fun _ _ i wr => ∃ k' : Nat, k' ≤ k ∧ i = .int .i64 (k' : Nat) ∧ Hid (Below (w1.heap.size + 1) (w1.alloc (.cells #[.bool true, .int .i64 s, .int .i64 o, .int .i64 a, .int .i64 tag, .bool al, .bool false] 74)) wr)) (fun _ _ i _ => n - (intOf i).toNat)
  case atStart => exact ⟨0, Nat.zero_le _, rfl, ⟨rfl, rfl, rfl, by simp, fun _ _ => rfl⟩⟩
  case round =>
    obtain ⟨k', hk', rfl, HB⟩ := hrel
    have hkl : Hid (k < l.length ∧ (∀ p, l[k]? = some p → p.isNone = true) ∧ ∀ j p, j < k → l[j]? = some p → p.isNone = false) := by
      have := KK.out
      rw [List.findIdx?_eq_some_iff_getElem] at this
      obtain ⟨q1, q2, q3⟩ := this
      refine ⟨q1, fun p hp => ?_, fun j p hj hp => ?_⟩
      · rw [List.getElem?_eq_getElem q1] at hp; cases hp; exact q2
      · have := q3 j hj
        rw [List.getElem?_eq_getElem (by omega)] at hp; cases hp; simpa using this
    have hsz3 : w1.heap.size + 1 ≤ wr.heap.size := by have := HB.out.size; simpa using this
    have BR := Mm.hid (((Below.refl w1.heap.size w1).alloc (Nat.le_refl _) (.cells #[.bool true, .int .i64 s, .int .i64 o, .int .i64 a, .int .i64 tag, .bool al, .bool false] 74)).trans (HB.out.mono (Nat.le_succ _)))
    have CR := Mm.hid (C1.out.below BR.out)
    have hlt : k' < n := by have := LL.out; have := hkl.out.1; omega
    obtain ⟨p, hp⟩ : ∃ p, l[k']? = some p := ⟨_, List.getElem?_eq_getElem (by have := LL.out; omega)⟩
    have P := Mm.hid hp
    have FR := Mm.hid (FB.out.keep (HB.out.block _ (Nat.lt_succ_self _)))
    have c0 : wr.cell? ⟨b, i * 2, none⟩ = some (.slice (some ⟨b + 2 + i, 0, none⟩) n n) := CR.out.sets.cell (fQ_len n) (i := i) (j := 0) (by rw [List.getElem?_mapIdx, R.out]; rfl) (by decide) rfl
    obtain ⟨ph, ps, po, pa, pt, pal, pm⟩ := p
    have BA := Mm.hid (BR.out.alloc (by omega) (.cells #[.bool ph, .int .i64 ps, .int .i64 po, .int .i64 pa, .int .i64 pt, .bool pal, .bool pm] 74))
    have CA := Mm.hid (C1.out.below BA.out)
    have FA := Mm.hid (FR.out.keep (Below.heap_alloc wr (.cells #[.bool ph, .int .i64 ps, .int .i64 po, .int .i64 pa, .int .i64 pt, .bool pal, .bool pm] 74) _ (by omega)))
    clear hp
    have f0 : wr.cell? ⟨b + 2 + i, k' * 7, none⟩ = some (.bool ph) := (CR.out.rows i _ R.out).2.cell fP_len P.out (j := 0) (by decide) rfl
    have f1 : wr.cell? ⟨b + 2 + i, k' * 7 + 1, none⟩ = some (.int .i64 ps) := (CR.out.rows i _ R.out).2.cell fP_len P.out (j := 1) (by decide) rfl
    have f2 : wr.cell? ⟨b + 2 + i, k' * 7 + 2, none⟩ = some (.int .i64 po) := (CR.out.rows i _ R.out).2.cell fP_len P.out (j := 2) (by decide) rfl
    have f3 : wr.cell? ⟨b + 2 + i, k' * 7 + 3, none⟩ = some (.int .i64 pa) := (CR.out.rows i _ R.out).2.cell fP_len P.out (j := 3) (by decide) rfl
    have f4 : wr.cell? ⟨b + 2 + i, k' * 7 + 4, none⟩ = some (.int .i64 pt) := (CR.out.rows i _ R.out).2.cell fP_len P.out (j := 4) (by decide) rfl
    have f5 : wr.cell? ⟨b + 2 + i, k' * 7 + 5, none⟩ = some (.bool pal) := (CR.out.rows i _ R.out).2.cell fP_len P.out (j := 5) (by decide) rfl
    have f6 : wr.cell? ⟨b + 2 + i, k' * 7 + 6, none⟩ = some (.bool pm) := (CR.out.rows i _ R.out).2.cell fP_len P.out (j := 6) (by decide) rfl
    by_cases hm : k' = k
    · subst hm
      have q := eqNone ⟨ph, ps, po, pa, pt, pal, pm⟩ true (hkl.out.2.1 _ P.out)
      simp only at q
      have a0 : (wr.alloc (.cells #[.bool ph, .int .i64 ps, .int .i64 po, .int .i64 pa, .int .i64 pt, .bool pal, .bool pm] 74)).cell? ⟨b, i * 2, none⟩ = some (.slice (some ⟨b + 2 + i, 0, none⟩) n n) := CA.out.sets.cell (fQ_len n) (i := i) (j := 0) (by rw [List.getElem?_mapIdx, R.out]; rfl) (by decide) rfl
      have a1 : (wr.alloc (.cells #[.bool ph, .int .i64 ps, .int .i64 po, .int .i64 pa, .int .i64 pt, .bool pal, .bool pm] 74)).cell? ⟨b + 1, 4, none⟩ = some (.int .i64 S.held) := CA.out.cache.cell 4
      have a2 : (wr.alloc (.cells #[.bool ph, .int .i64 ps, .int .i64 po, .int .i64 pa, .int .i64 pt, .bool pal, .bool pm] 74)).frozen? ⟨b + 1, 4, none⟩ = false := CA.out.cache.free 4
      have g0 : (wr.alloc (.cells #[.bool ph, .int .i64 ps, .int .i64 po, .int .i64 pa, .int .i64 pt, .bool pal, .bool pm] 74)).cell? ⟨b + 2 + i, k' * 7, none⟩ = some (.bool ph) := (CA.out.rows i _ R.out).2.cell fP_len P.out (j := 0) (by decide) rfl
      have g1 : (wr.alloc (.cells #[.bool ph, .int .i64 ps, .int .i64 po, .int .i64 pa, .int .i64 pt, .bool pal, .bool pm] 74)).cell? ⟨b + 2 + i, k' * 7 + 1, none⟩ = some (.int .i64 ps) := (CA.out.rows i _ R.out).2.cell fP_len P.out (j := 1) (by decide) rfl
      have g2 : (wr.alloc (.cells #[.bool ph, .int .i64 ps, .int .i64 po, .int .i64 pa, .int .i64 pt, .bool pal, .bool pm] 74)).cell? ⟨b + 2 + i, k' * 7 + 2, none⟩ = some (.int .i64 po) := (CA.out.rows i _ R.out).2.cell fP_len P.out (j := 2) (by decide) rfl
      have g3 : (wr.alloc (.cells #[.bool ph, .int .i64 ps, .int .i64 po, .int .i64 pa, .int .i64 pt, .bool pal, .bool pm] 74)).cell? ⟨b + 2 + i, k' * 7 + 3, none⟩ = some (.int .i64 pa) := (CA.out.rows i _ R.out).2.cell fP_len P.out (j := 3) (by decide) rfl
      have g4 : (wr.alloc (.cells #[.bool ph, .int .i64 ps, .int .i64 po, .int .i64 pa, .int .i64 pt, .bool pal, .bool pm] 74)).cell? ⟨b + 2 + i, k' * 7 + 4, none⟩ = some (.int .i64 pt) := (CA.out.rows i _ R.out).2.cell fP_len P.out (j := 4) (by decide) rfl
      have g5 : (wr.alloc (.cells #[.bool ph, .int .i64 ps, .int .i64 po, .int .i64 pa, .int .i64 pt, .bool pal, .bool pm] 74)).cell? ⟨b + 2 + i, k' * 7 + 5, none⟩ = some (.bool pal) := (CA.out.rows i _ R.out).2.cell fP_len P.out (j := 5) (by decide) rfl
      have g6 : (wr.alloc (.cells #[.bool ph, .int .i64 ps, .int .i64 po, .int .i64 pa, .int .i64 pt, .bool pal, .bool pm] 74)).cell? ⟨b + 2 + i, k' * 7 + 6, none⟩ = some (.bool pm) := (CA.out.rows i _ R.out).2.cell fP_len P.out (j := 6) (by decide) rfl
      have n0 : (wr.alloc (.cells #[.bool ph, .int .i64 ps, .int .i64 po, .int .i64 pa, .int .i64 pt, .bool pal, .bool pm] 74)).cell? ⟨w1.heap.size, 0, none⟩ = some (.bool true) := FA.out.cell 0
      have n1 : (wr.alloc (.cells #[.bool ph, .int .i64 ps, .int .i64 po, .int .i64 pa, .int .i64 pt, .bool pal, .bool pm] 74)).cell? ⟨w1.heap.size, 1, none⟩ = some (.int .i64 s) := FA.out.cell 1
      have n2 : (wr.alloc (.cells #[.bool ph, .int .i64 ps, .int .i64 po, .int .i64 pa, .int .i64 pt, .bool pal, .bool pm] 74)).cell? ⟨w1.heap.size, 2, none⟩ = some (.int .i64 o) := FA.out.cell 2
      have n3 : (wr.alloc (.cells #[.bool ph, .int .i64 ps, .int .i64 po, .int .i64 pa, .int .i64 pt, .bool pal, .bool pm] 74)).cell? ⟨w1.heap.size, 3, none⟩ = some (.int .i64 a) := FA.out.cell 3
      have n4 : (wr.alloc (.cells #[.bool ph, .int .i64 ps, .int .i64 po, .int .i64 pa, .int .i64 pt, .bool pal, .bool pm] 74)).cell? ⟨w1.heap.size, 4, none⟩ = some (.int .i64 tag) := FA.out.cell 4
      have n5 : (wr.alloc (.cells #[.bool ph, .int .i64 ps, .int .i64 po, .int .i64 pa, .int .i64 pt, .bool pal, .bool pm] 74)).cell? ⟨w1.heap.size, 5, none⟩ = some (.bool al) := FA.out.cell 5
      have n6 : (wr.alloc (.cells #[.bool ph, .int .i64 ps, .int .i64 po, .int .i64 pa, .int .i64 pt, .bool pal, .bool pm] 74)).cell? ⟨w1.heap.size, 6, none⟩ = some (.bool false) := FA.out.cell 6
      have z0 : (wr.alloc (.cells #[.bool ph, .int .i64 ps, .int .i64 po, .int .i64 pa, .int .i64 pt, .bool pal, .bool pm] 74)).frozen? ⟨b + 2 + i, k' * 7, none⟩ = false := (CA.out.rows i _ R.out).2.free _
      have z1 : (wr.alloc (.cells #[.bool ph, .int .i64 ps, .int .i64 po, .int .i64 pa, .int .i64 pt, .bool pal, .bool pm] 74)).frozen? ⟨b + 2 + i, k' * 7 + 1, none⟩ = false := (CA.out.rows i _ R.out).2.free _
      have z2 : (wr.alloc (.cells #[.bool ph, .int .i64 ps, .int .i64 po, .int .i64 pa, .int .i64 pt, .bool pal, .bool pm] 74)).frozen? ⟨b + 2 + i, k' * 7 + 2, none⟩ = false := (CA.out.rows i _ R.out).2.free _
      have z3 : (wr.alloc (.cells #[.bool ph, .int .i64 ps, .int .i64 po, .int .i64 pa, .int .i64 pt, .bool pal, .bool pm] 74)).frozen? ⟨b + 2 + i, k' * 7 + 3, none⟩ = false := (CA.out.rows i _ R.out).2.free _
      have z4 : (wr.alloc (.cells #[.bool ph, .int .i64 ps, .int .i64 po, .int .i64 pa, .int .i64 pt, .bool pal, .bool pm] 74)).frozen? ⟨b + 2 + i, k' * 7 + 4, none⟩ = false := (CA.out.rows i _ R.out).2.free _
      have z5 : (wr.alloc (.cells #[.bool ph, .int .i64 ps, .int .i64 po, .int .i64 pa, .int .i64 pt, .bool pal, .bool pm] 74)).frozen? ⟨b + 2 + i, k' * 7 + 5, none⟩ = false := (CA.out.rows i _ R.out).2.free _
      have z6 : (wr.alloc (.cells #[.bool ph, .int .i64 ps, .int .i64 po, .int .i64 pa, .int .i64 pt, .bool pal, .bool pm] 74)).frozen? ⟨b + 2 + i, k' * 7 + 6, none⟩ = false := (CA.out.rows i _ R.out).2.free _
      go_wp2_with fail
      go_region
      all_goals go_wp2
      go_end0
      have key := ((CA.out.whole (k := k') R.out P.out ⟨true, s, o, a, tag, al, false⟩).held (S.held + 1)).drew
      unfold setPl at key
      refine ⟨rfl, key, ?_⟩
      refine Fr.trans (T := fun _ => False) ?_ (Fr.drew _ _) (fun _ _ h => h.elim)
      refine Fr.set ?_ _ ⟨by show b ≤ b + 1; omega, by show b + 1 < _; omega⟩
      iterate 7 refine Fr.set ?_ _ ⟨by show b ≤ b + 2 + i; omega, by show b + 2 + i < _; omega⟩
      exact F1.out.inC.trans (Fr.of_below BA.out) (fun _ _ h => h.elim)
    · have q := eqNone ⟨ph, ps, po, pa, pt, pal, pm⟩ false (hkl.out.2.2 k' _ (by omega) P.out)
      simp only at q
      go_wp2
      go_roundw
      case rel => exact ⟨k' + 1, by omega, by go_num, HB.out.alloc (by omega) _⟩
      case measure => simp [intOf]; omega
end Go.Proofs.Ythojgfnaanckeaa

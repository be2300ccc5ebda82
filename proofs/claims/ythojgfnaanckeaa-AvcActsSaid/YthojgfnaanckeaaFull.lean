/- Walks: the hand turns; Put, where there is no place. -/
import Derived.Test.YthojgfnaanckeaaPut
namespace Go.Proofs.Ythojgfnaanckeaa
open Go.RowKit Go.Mm
theorem turn_any (b n i : Nat) (S : St) (l : List Pl) (hand : Nat) (w : World) (h : CacheB w b n S) (hr : S.rows[i]? = some (l, hand)) (h1 : 1 ≤ n) (hn : n ≤ 8) (hh : hand < n) :
    Calls Try.prog 29 #[.pointer (some ⟨b, i * 2, none⟩)] w fun e w' => e = .returned (.tuple #[]) ∧ w' = (w.setCell ⟨b, i * 2 + 1, none⟩ (.int .i64 ((hand + 1) % n : Nat))).drew := by
  have c0 : w.cell? ⟨b, i * 2, none⟩ = some (.slice (some ⟨b + 2 + i, 0, none⟩) n n) := h.sets.cell (fQ_len n) (i := i) (j := 0) (by rw [List.getElem?_mapIdx, hr]; rfl) (by decide) rfl
  have c1 : w.cell? ⟨b, i * 2 + 1, none⟩ = some (.int .i64 (hand : Nat)) := h.sets.cell (fQ_len n) (i := i) (j := 1) (by rw [List.getElem?_mapIdx, hr]; rfl) (by decide) rfl
  have c2 : w.frozen? ⟨b, i * 2 + 1, none⟩ = false := h.sets.free _
  have hz : ((n : Int) == 0) = false := by simp; omega
  have e : Hid (((hand : Int) + 1) % (n : Int) = (((hand + 1) % n : Nat) : Int)) := by
    have := Int.natCast_emod (hand + 1) n
    unfold Hid; rw [this]; simp
  clear h hr
  go_enter Try.func29, Try.ntmps29
  go_wp2_with fail
  go_region
  all_goals go_wp2
  go_end0
  rw [e.out]
  exact ⟨rfl, rfl⟩
/-- the hand goes on over the marked ones -/
def clock (n : Nat) : Nat → List Pl → Nat → List Pl × Nat
  | 0, l, h => (l, h)
  | f + 1, l, h => match l[h]? with
    | some p => if p.marked then clock n f (l.set h { p with marked := false }) ((h + 1) % n) else (l, h)
    | none => (l, h)
def mcount (l : List Pl) : Nat := l.countP (·.marked)
theorem mcount_set {l : List Pl} {h : Nat} {p : Pl} (hp : l[h]? = some p) (hm : p.marked = true) : mcount (l.set h { p with marked := false }) + 1 = mcount l := by
  unfold mcount
  obtain ⟨hlt, hg⟩ := List.getElem?_eq_some_iff.1 hp
  have := List.countP_pos_iff (p := fun x : Pl => x.marked) |>.2 ⟨p, List.mem_of_getElem? hp, hm⟩
  rw [List.countP_set hlt, hg, hm]
  simp; omega
theorem clock_step {n f : Nat} {l : List Pl} {h : Nat} {p : Pl} (hp : l[h]? = some p) (hm : p.marked = true) : clock n (f + 1) l h = clock n f (l.set h { p with marked := false }) ((h + 1) % n) := by
  simp [clock, hp, hm]
theorem clock_stop {n f : Nat} {l : List Pl} {h : Nat} {p : Pl} (hp : l[h]? = some p) (hm : p.marked = false) : clock n f l h = (l, h) := by
  cases f <;> simp [clock, hp, hm]
def isMark (w : World) (g k : Nat) : Bool := match w.cell? ⟨g, k * 7 + 6, none⟩ with | some (.bool true) => true | _ => false
def marks (w : World) (g n : Nat) : Nat := (List.range n).countP (isMark w g)
theorem marks_flat {w : World} {g n : Nat} {l : List Pl} (F : Flat w g 74 fP l) (hl : l.length = n) : marks w g n = mcount l := by
  subst hl
  unfold marks mcount
  have e : ∀ k ∈ List.range l.length, isMark w g k = (l.map (·.marked))[k]?.getD false := by
    intro k hk
    have hk := List.mem_range.1 hk
    have hp := List.getElem?_eq_getElem hk
    unfold isMark
    rw [F.cell fP_len hp (j := 6) (by decide) rfl, List.getElem?_map, hp]
    cases h : l[k].marked <;> simp [h]
  rw [List.countP_congr (fun k hk => by rw [e k hk])]
  clear e F
  induction l with
  | nil => rfl
  | cons p l ih =>
    rw [List.length_cons, List.range_succ_eq_map, List.countP_cons, List.countP_map, List.countP_cons, ← ih]
    simp [Function.comp_def]
def full (n : Nat) (S : St) (tag s o a : Int) (al : Bool) (i : Nat) (l : List Pl) (hand : Nat) : St :=
  { S with rows := S.rows.set i ((clock n n l hand).1.set (clock n n l hand).2 ⟨true, s, o, a, tag, al, false⟩, ((clock n n l hand).2 + 1) % n), ev := S.ev + 1 }
theorem set_same {α : Type} {l : List α} {i : Nat} {x : α} (h : l[i]? = some x) : l.set i x = l := by
  apply List.ext_getElem?
  intro j
  rw [List.getElem?_set]
  split
  · rename_i e; subst e
    rw [h, if_pos (List.getElem?_eq_some_iff.1 h).1]
  · rfl
/-- the worlds of the second loop -/
def Turning (w wr : World) (b n : Nat) (S : St) (i g : Nat) (l : List Pl) (hand : Nat) (fresh : Array Value) (l' : List Pl) (h' f : Nat) : Prop :=
  clock n f l' h' = clock n n l hand ∧ mcount l' ≤ f ∧ l'.length = n ∧ h' < n ∧ CacheB wr b n { S with rows := S.rows.set i (l', h') } ∧ Blk wr g 74 fresh ∧ Fr (InC b S.rows.length) w wr
set_option maxHeartbeats 4000000 in
theorem put_full (b n : Nat) (S : St) (tag s o a : Int) (al : Bool) (i : Nat) (l : List Pl) (hand : Nat) (w : World) (h : CacheB w b n S) (hl : 1 ≤ S.rows.length) (hl' : S.rows.length ≤ 256) (h1 : 1 ≤ n) (hn : n ≤ 8) (hi : spot S.rows.length s o a = i) (hr : S.rows[i]? = some (l, hand)) (hhd : hand < n)
    (hf : find l s o a = none) (hk : l.findIdx? Pl.isNone = none) (hh : 0 ≤ S.ev ∧ S.ev < 9223372036854775807) :
    Calls Try.prog 18 #[.pointer (some ⟨b + 1, 0, none⟩), .int .i64 tag, .int .i64 s, .int .i64 o, .int .i64 a, .bool al] w (PutEnds b n S (full n S tag s o a al i l hand) w) := by
  have KK := Mm.hid hk
  clear hk
  have C0 := h
  have hilt : i < S.rows.length := (List.getElem?_eq_some_iff.1 hr).1
  have R := Mm.hid hr
  have I := Mm.hid hi
  have FD := Mm.hid hf
  have LL := Mm.hid (h.rows i _ hr).1
  have b1 := h.cache.lt
  have b2 := (h.rows i _ hr).2.lt
  have C := Mm.hid (h.below ((Below.refl w.heap.size w).alloc (Nat.le_refl _) (.cells #[.int .i64 s, .int .i64 o, .int .i64 a] 69)))
  have F0 := Mm.hid (Fr.alloc (fun _ => False) w (.cells #[.int .i64 s, .int .i64 o, .int .i64 a] 69))
  clear h hr hi hf C0
  go_enter Try.func18, Try.ntmps18
  go_wp2_with fail
  refine (at_any b n S s o a i l hand _ (by exact C.out) hl hl' hn I.out R.out).mono ?_
  rintro e w1 ⟨rfl, hb⟩
  rw [FD.out]
  have C1 := Mm.hid (C.out.below hb)
  have F1 := Mm.hid (F0.out.trans (Fr.of_below hb) fun _ _ h => h)
  have hsz := F1.out.size
  have hsz2 : w.heap.size < w1.heap.size := by have := hb.size; simp at this; omega
  have X1 := Mm.hid ((Blk.new w #[.int .i64 s, .int .i64 o, .int .i64 a] 69).keep (hb.block _ (by simp)))
  have e1 : w1.cell? ⟨w.heap.size, 0, none⟩ = some (.int .i64 s) := X1.out.cell 0
  have e2 : w1.cell? ⟨w.heap.size, 1, none⟩ = some (.int .i64 o) := X1.out.cell 1
  have e3 : w1.cell? ⟨w.heap.size, 2, none⟩ = some (.int .i64 a) := X1.out.cell 2
  clear hb C F0
  have FB := Mm.hid (Blk.new w1 #[.bool true, .int .i64 s, .int .i64 o, .int .i64 a, .int .i64 tag, .bool al, .bool false] 74)
  have CF := Mm.hid (C1.out.below ((Below.refl w1.heap.size w1).alloc (Nat.le_refl _) (.cells #[.bool true, .int .i64 s, .int .i64 o, .int .i64 a, .int .i64 tag, .bool al, .bool false] 74)))
  have d0 : (w1.alloc (.cells #[.bool true, .int .i64 s, .int .i64 o, .int .i64 a, .int .i64 tag, .bool al, .bool false] 74)).cell? ⟨b, i * 2, none⟩ = some (.slice (some ⟨b + 2 + i, 0, none⟩) n n) := CF.out.sets.cell (fQ_len n) (i := i) (j := 0) (by rw [List.getElem?_mapIdx, R.out]; rfl) (by decide) rfl
  have c0 : w1.cell? ⟨b, i * 2, none⟩ = some (.slice (some ⟨b + 2 + i, 0, none⟩) n n) := C1.out.sets.cell (fQ_len n) (i := i) (j := 0) (by rw [List.getElem?_mapIdx, R.out]; rfl) (by decide) rfl
  simp only [ofFind]
  go_wp2_with fail
  clear d0 c0 e1 e2 e3
  go_loopw [16, 17, 55] (fun _ _ i wr => ∃ k' : Nat, k' ≤ n ∧ i = .int .i64 (k' : Nat) ∧ Hid (Below (w1.heap.size + 1) (w1.alloc (.cells #[.bool true, .int .i64 s, .int .i64 o, .int .i64 a, .int .i64 tag, .bool al, .bool false] 74)) wr)) (fun _ _ i _ => n - (intOf i).toNat)
  case atStart => exact ⟨0, Nat.zero_le _, rfl, ⟨rfl, rfl, rfl, by simp, fun _ _ => rfl⟩⟩
  case round =>
    obtain ⟨k', hk', rfl, HB⟩ := hrel
    have hsz3 : w1.heap.size + 1 ≤ wr.heap.size := by have := HB.out.size; simpa using this
    have BR := Mm.hid (((Below.refl w1.heap.size w1).alloc (Nat.le_refl _) (.cells #[.bool true, .int .i64 s, .int .i64 o, .int .i64 a, .int .i64 tag, .bool al, .bool false] 74)).trans (HB.out.mono (Nat.le_succ _)))
    have CR := Mm.hid (C1.out.below BR.out)
    have FR := Mm.hid (FB.out.keep (HB.out.block _ (Nat.lt_succ_self _)))
    by_cases hlt : k' < n
    · obtain ⟨p, hp⟩ : ∃ p, l[k']? = some p := ⟨_, List.getElem?_eq_getElem (by have := LL.out; omega)⟩
      have P := Mm.hid hp
      have hno : Hid (p.isNone = false) := by
        have := KK.out
        rw [List.findIdx?_eq_none_iff] at this
        exact this p (List.mem_of_getElem? hp)
      obtain ⟨ph, ps, po, pa, pt, pal, pm⟩ := p
      clear hp
      have f0 : wr.cell? ⟨b + 2 + i, k' * 7, none⟩ = some (.bool ph) := (CR.out.rows i _ R.out).2.cell fP_len P.out (j := 0) (by decide) rfl
      have f1 : wr.cell? ⟨b + 2 + i, k' * 7 + 1, none⟩ = some (.int .i64 ps) := (CR.out.rows i _ R.out).2.cell fP_len P.out (j := 1) (by decide) rfl
      have f2 : wr.cell? ⟨b + 2 + i, k' * 7 + 2, none⟩ = some (.int .i64 po) := (CR.out.rows i _ R.out).2.cell fP_len P.out (j := 2) (by decide) rfl
      have f3 : wr.cell? ⟨b + 2 + i, k' * 7 + 3, none⟩ = some (.int .i64 pa) := (CR.out.rows i _ R.out).2.cell fP_len P.out (j := 3) (by decide) rfl
      have f4 : wr.cell? ⟨b + 2 + i, k' * 7 + 4, none⟩ = some (.int .i64 pt) := (CR.out.rows i _ R.out).2.cell fP_len P.out (j := 4) (by decide) rfl
      have f5 : wr.cell? ⟨b + 2 + i, k' * 7 + 5, none⟩ = some (.bool pal) := (CR.out.rows i _ R.out).2.cell fP_len P.out (j := 5) (by decide) rfl
      have f6 : wr.cell? ⟨b + 2 + i, k' * 7 + 6, none⟩ = some (.bool pm) := (CR.out.rows i _ R.out).2.cell fP_len P.out (j := 6) (by decide) rfl
      have q := eqNone ⟨ph, ps, po, pa, pt, pal, pm⟩ false hno.out
      simp only at q
      go_wp2
      go_roundw
      case rel => exact ⟨k' + 1, by omega, by go_num, HB.out.alloc (by omega) _⟩
      case measure => simp [intOf]; omega
    · have T0 : Hid (Turning w wr b n S i w1.heap.size l hand #[.bool true, .int .i64 s, .int .i64 o, .int .i64 a, .int .i64 tag, .bool al, .bool false] l hand n) := by
        refine ⟨rfl, by rw [← LL.out]; exact List.countP_le_length, LL.out, hhd, ?_, FR.out, F1.out.inC.trans (Fr.of_below BR.out) (fun _ _ h => h.elim)⟩
        rw [set_same R.out]
        exact CR.out
      clear CR FR BR HB
      go_wp2_with fail
      go_loopw [80] (fun _ W => ∃ (l' : List Pl) (h' f : Nat), Hid (Turning w W b n S i w1.heap.size l hand #[.bool true, .int .i64 s, .int .i64 o, .int .i64 a, .int .i64 tag, .bool al, .bool false] l' h' f)) (fun _ W => marks W (b + 2 + i) n)
      case atStart => exact ⟨l, hand, n, T0⟩
      case round =>
      obtain ⟨l', h', f, T⟩ := hrel
      clear T0
      have hlt' : h' < n := T.out.2.2.2.1
      obtain ⟨p, hp⟩ : ∃ p, l'[h']? = some p := ⟨_, List.getElem?_eq_getElem (by have := T.out.2.2.1; omega)⟩
      have P := Mm.hid hp
      have R2 : Hid ((S.rows.set i (l', h'))[i]? = some (l', h')) := by unfold Hid; rw [List.getElem?_set_self hilt]
      obtain ⟨ph, ps, po, pa, pt, pal, pm⟩ := p
      clear hp
      have hsz4 : w.heap.size ≤ wr.heap.size := T.out.2.2.2.2.2.2.size
      have c0 : wr.cell? ⟨b, i * 2, none⟩ = some (.slice (some ⟨b + 2 + i, 0, none⟩) n n) := T.out.2.2.2.2.1.sets.cell (fQ_len n) (i := i) (j := 0) (by rw [List.getElem?_mapIdx, R2.out]; rfl) (by decide) rfl
      have c1 : wr.cell? ⟨b, i * 2 + 1, none⟩ = some (.int .i64 (h' : Nat)) := T.out.2.2.2.2.1.sets.cell (fQ_len n) (i := i) (j := 1) (by rw [List.getElem?_mapIdx, R2.out]; rfl) (by decide) rfl
      have f0 : wr.cell? ⟨b + 2 + i, h' * 7, none⟩ = some (.bool ph) := (T.out.2.2.2.2.1.rows i _ R2.out).2.cell fP_len P.out (j := 0) (by decide) rfl
      have f1 : wr.cell? ⟨b + 2 + i, h' * 7 + 1, none⟩ = some (.int .i64 ps) := (T.out.2.2.2.2.1.rows i _ R2.out).2.cell fP_len P.out (j := 1) (by decide) rfl
      have f2 : wr.cell? ⟨b + 2 + i, h' * 7 + 2, none⟩ = some (.int .i64 po) := (T.out.2.2.2.2.1.rows i _ R2.out).2.cell fP_len P.out (j := 2) (by decide) rfl
      have f3 : wr.cell? ⟨b + 2 + i, h' * 7 + 3, none⟩ = some (.int .i64 pa) := (T.out.2.2.2.2.1.rows i _ R2.out).2.cell fP_len P.out (j := 3) (by decide) rfl
      have f4 : wr.cell? ⟨b + 2 + i, h' * 7 + 4, none⟩ = some (.int .i64 pt) := (T.out.2.2.2.2.1.rows i _ R2.out).2.cell fP_len P.out (j := 4) (by decide) rfl
      have f5 : wr.cell? ⟨b + 2 + i, h' * 7 + 5, none⟩ = some (.bool pal) := (T.out.2.2.2.2.1.rows i _ R2.out).2.cell fP_len P.out (j := 5) (by decide) rfl
      have f6 : wr.cell? ⟨b + 2 + i, h' * 7 + 6, none⟩ = some (.bool pm) := (T.out.2.2.2.2.1.rows i _ R2.out).2.cell fP_len P.out (j := 6) (by decide) rfl
      have z0 : wr.frozen? ⟨b + 2 + i, h' * 7, none⟩ = false := (T.out.2.2.2.2.1.rows i _ R2.out).2.free _
      have z1 : wr.frozen? ⟨b + 2 + i, h' * 7 + 1, none⟩ = false := (T.out.2.2.2.2.1.rows i _ R2.out).2.free _
      have z2 : wr.frozen? ⟨b + 2 + i, h' * 7 + 2, none⟩ = false := (T.out.2.2.2.2.1.rows i _ R2.out).2.free _
      have z3 : wr.frozen? ⟨b + 2 + i, h' * 7 + 3, none⟩ = false := (T.out.2.2.2.2.1.rows i _ R2.out).2.free _
      have z4 : wr.frozen? ⟨b + 2 + i, h' * 7 + 4, none⟩ = false := (T.out.2.2.2.2.1.rows i _ R2.out).2.free _
      have z5 : wr.frozen? ⟨b + 2 + i, h' * 7 + 5, none⟩ = false := (T.out.2.2.2.2.1.rows i _ R2.out).2.free _
      have z6 : wr.frozen? ⟨b + 2 + i, h' * 7 + 6, none⟩ = false := (T.out.2.2.2.2.1.rows i _ R2.out).2.free _
      cases pm
      · have n0 : wr.cell? ⟨w1.heap.size, 0, none⟩ = some (.bool true) := T.out.2.2.2.2.2.1.cell 0
        have n1 : wr.cell? ⟨w1.heap.size, 1, none⟩ = some (.int .i64 s) := T.out.2.2.2.2.2.1.cell 1
        have n2 : wr.cell? ⟨w1.heap.size, 2, none⟩ = some (.int .i64 o) := T.out.2.2.2.2.2.1.cell 2
        have n3 : wr.cell? ⟨w1.heap.size, 3, none⟩ = some (.int .i64 a) := T.out.2.2.2.2.2.1.cell 3
        have n4 : wr.cell? ⟨w1.heap.size, 4, none⟩ = some (.int .i64 tag) := T.out.2.2.2.2.2.1.cell 4
        have n5 : wr.cell? ⟨w1.heap.size, 5, none⟩ = some (.bool al) := T.out.2.2.2.2.2.1.cell 5
        have n6 : wr.cell? ⟨w1.heap.size, 6, none⟩ = some (.bool false) := T.out.2.2.2.2.2.1.cell 6
        go_wp2_with fail
        go_quiet (fail)
        go_wp2_with fail
        go_region
        all_goals go_wp2_with fail
        have K5 := (T.out.2.2.2.2.1.drewN (k := nq + 1)).whole (k := h') R2.out P.out ⟨true, s, o, a, tag, al, false⟩
        unfold setPl at K5
        have r3 : ((S.rows.set i (l', h')).set i (l'.set h' ⟨true, s, o, a, tag, al, false⟩, h'))[i]? = some (l'.set h' ⟨true, s, o, a, tag, al, false⟩, h') := by rw [List.getElem?_set_self (by simpa using hilt)]
        refine (turn_any b n i _ _ h' _ K5 r3 h1 hn hlt').mono ?_
        rintro e w5 ⟨rfl, hw5⟩
        have C5 : Hid (CacheB w5 b n { S with rows := S.rows.set i (l'.set h' ⟨true, s, o, a, tag, al, false⟩, (h' + 1) % n) }) := by
          have := (K5.hand r3 ((h' + 1) % n)).drew
          simp only [List.set_set] at this
          rw [hw5]; exact this
        have F5 : Hid (Fr (InC b S.rows.length) w w5) := by
          rw [hw5]
          refine Fr.trans (T := fun _ => False) ?_ (Fr.drew _ _) (fun _ _ h => h.elim)
          refine Fr.set ?_ _ ⟨by show b ≤ b; omega, by show b < _; omega⟩
          iterate 7 refine Fr.set ?_ _ ⟨by show b ≤ b + 2 + i; omega, by show b + 2 + i < _; omega⟩
          exact T.out.2.2.2.2.2.2.trans (Fr.drewN (fun _ => False) _ _) (fun _ _ h => h.elim)
        have e1 : w5.cell? ⟨b + 1, 3, none⟩ = some (.int .i64 S.ev) := C5.out.cache.cell 3
        have e2 : w5.frozen? ⟨b + 1, 3, none⟩ = false := C5.out.cache.free 3
        have hfin : Hid (clock n n l hand = (l', h')) := by rw [← T.out.1, clock_stop P.out rfl]; rfl
        clear K5 r3 hw5
        go_wp2
        go_end0
        refine ⟨rfl, ?_, F5.out.set (p := ⟨b + 1, 3, none⟩) _ ⟨by show b ≤ b + 1; omega, by show b + 1 < _; omega⟩⟩
        have := C5.out.ev (S.ev + 1)
        unfold full
        rw [hfin.out]
        exact this
      · go_wp2_with fail
        go_quiet (fail)
        go_wp2_with fail
        go_region
        all_goals go_wp2_with fail
        have K5 := (T.out.2.2.2.2.1.drewN (k := nq + 1)).cellset R2.out P.out ⟨ph, ps, po, pa, pt, pal, false⟩ (.bool false) (j := 6) (by decide) rfl
        have r3 : ((S.rows.set i (l', h')).set i (l'.set h' ⟨ph, ps, po, pa, pt, pal, false⟩, h'))[i]? = some (l'.set h' ⟨ph, ps, po, pa, pt, pal, false⟩, h') := by rw [List.getElem?_set_self (by simpa using hilt)]
        refine (turn_any b n i _ _ h' _ K5 r3 h1 hn hlt').mono ?_
        rintro e w5 ⟨rfl, hw5⟩
        have hc : mcount (l'.set h' ⟨ph, ps, po, pa, pt, pal, false⟩) + 1 = mcount l' := mcount_set P.out rfl
        have T5 : Hid (Turning w w5 b n S i w1.heap.size l hand #[.bool true, .int .i64 s, .int .i64 o, .int .i64 a, .int .i64 tag, .bool al, .bool false] (l'.set h' ⟨ph, ps, po, pa, pt, pal, false⟩) ((h' + 1) % n) (f - 1)) := by
          obtain ⟨t1, t2, t3, t4, t5, t6, t7⟩ := T.out
          have t2' : mcount (l'.set h' ⟨ph, ps, po, pa, pt, pal, false⟩) + 1 ≤ f := by rw [show mcount (l'.set h' ⟨ph, ps, po, pa, pt, pal, false⟩) + 1 = mcount l' from hc]; exact t2
          have hFr : Fr (fun k => k = b ∨ k = b + 2 + i) wr w5 := by
            rw [hw5]
            refine Fr.trans (T := fun _ => False) ?_ (Fr.drew _ _) (fun _ _ h => h.elim)
            refine Fr.set ?_ _ (.inl rfl)
            refine Fr.set ?_ _ (.inr rfl)
            exact Fr.drewN _ _ _
          have hg : ¬ (w1.heap.size = b ∨ w1.heap.size = b + 2 + i) := by omega
          refine ⟨?_, by omega, by simpa using t3, Nat.mod_lt _ (by omega), ?_, hFr.blk t6 hg, t7.trans hFr (fun k _ hk => ?_)⟩
          · rw [← t1]
            obtain ⟨f', rfl⟩ : ∃ f', f = f' + 1 := ⟨f - 1, by omega⟩
            rw [clock_step P.out rfl]; rfl
          · have := (K5.hand r3 ((h' + 1) % n)).drew
            simp only [List.set_set] at this
            rw [hw5]; exact this
          · rcases hk with rfl | rfl
            · exact ⟨Nat.le_refl _, by omega⟩
            · exact ⟨by omega, by omega⟩
        have hM : Hid (marks w5 (b + 2 + i) n < marks wr (b + 2 + i) n) := by
          unfold Hid
          rw [marks_flat (T.out.2.2.2.2.1.rows i _ R2.out).2 T.out.2.2.1, marks_flat (T5.out.2.2.2.2.1.rows i (_, _) (by rw [List.getElem?_set_self hilt])).2 T5.out.2.2.1]
          show mcount (l'.set h' ⟨ph, ps, po, pa, pt, pal, false⟩) < mcount l'
          omega
        clear K5 r3 hw5 hc
        go_wp2
        go_roundw
        case rel => exact ⟨_, _, _, T5⟩
        case measure => exact hM.out
end Go.Proofs.Ythojgfnaanckeaa

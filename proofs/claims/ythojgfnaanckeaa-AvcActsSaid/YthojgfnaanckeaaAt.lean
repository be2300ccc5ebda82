/- Walks: where a triple's place is. -/
import Derived.Test.YthojgfnaanckeaaEq
import Derived.BigQuiet
import Derived.Deep.QuietTactic
namespace Go.Proofs.Ythojgfnaanckeaa
open Go.RowKit Go.Mm
def hsh (s o a : Int) : Int := wrap64 (wrap64 (wrap64 (wrap64 (s * 31) + o) * 31) + a)
def spot (n : Nat) (s o a : Int) : Nat := (hsh s o a % (n : Int)).toNat
theorem tmod_emod (h n : Int) (hn : 0 < n) : (if h.tmod n < 0 then h.tmod n + n else h.tmod n) = h % n := by
  rw [Int.tmod_eq_emod]
  have := Int.emod_lt_of_pos h hn
  have := Int.emod_nonneg h (show n ≠ 0 by omega)
  have hna : (n.natAbs : Int) = n := by omega
  split <;> split <;> omega
theorem CacheB.drewN {w : World} {b n k : Nat} {S : St} (h : CacheB w b n S) : CacheB (w.drewN k) b n S := h.keep fun _ _ _ => rfl
theorem spot_any (b n : Nat) (S : St) (s o a : Int) (w : World) (h : CacheB w b n S) (hl : 1 ≤ S.rows.length) (hl' : S.rows.length ≤ 256) :
    Calls Try.prog 24 #[.pointer (some ⟨b + 1, 0, none⟩), .int .i64 s, .int .i64 o, .int .i64 a] w fun e w' => e = .returned (.int .i64 (spot S.rows.length s o a)) ∧ w' = w := by
  have c0 : w.cell? ⟨b + 1, 0, none⟩ = some (.slice (some ⟨b, 0, none⟩) S.rows.length S.rows.length) := h.cache.cell 0
  clear h
  generalize S.rows.length = len at *
  have hz : ((len : Int) == 0) = false := by simp; omega
  have hr := Mm.hid (tmod_emod (hsh s o a) len (by omega))
  go_enter Try.func24, Try.ntmps24
  go_wp2
  · rename_i hneg
    have hneg' : (hsh s o a).tmod len < 0 := hneg
    have e := hr.out
    rw [if_pos hneg'] at e
    have q1 := Int.emod_nonneg (hsh s o a) (show (len : Int) ≠ 0 by omega)
    have q2 := Int.emod_lt_of_pos (hsh s o a) (show (0 : Int) < len by omega)
    have fin : wrap64 ((wrap64 (wrap64 (wrap64 (wrap64 (s * 31) + o) * 31) + a)).tmod len + len) = (spot len s o a : Nat) := by
      show wrap64 ((hsh s o a).tmod len + len) = _
      rw [e]
      unfold spot
      rw [Int.toNat_of_nonneg q1]
      unfold wrap64; omega
    rw [fin]
    go_ret
    exact ⟨rfl, rfl⟩
  · rename_i hneg
    have hneg' : ¬ (hsh s o a).tmod len < 0 := Int.not_lt.2 hneg
    have e := hr.out
    rw [if_neg hneg'] at e
    have q1 := Int.emod_nonneg (hsh s o a) (show (len : Int) ≠ 0 by omega)
    have fin : (wrap64 (wrap64 (wrap64 (wrap64 (s * 31) + o) * 31) + a)).tmod len = (spot len s o a : Nat) := by
      show (hsh s o a).tmod len = _
      rw [e]
      unfold spot
      rw [Int.toNat_of_nonneg q1]
    rw [fin]
    go_ret
    exact ⟨rfl, rfl⟩
theorem spot_any' (b n : Nat) (S : St) (s o a : Int) (i : Nat) (w : World) (h : CacheB w b n S) (hl : 1 ≤ S.rows.length) (hl' : S.rows.length ≤ 256) (hi : spot S.rows.length s o a = i) :
    Calls Try.prog 24 #[.pointer (some ⟨b + 1, 0, none⟩), .int .i64 s, .int .i64 o, .int .i64 a] w fun e w' => e = .returned (.int .i64 (i : Nat)) ∧ w' = w := by
  subst hi; exact spot_any b n S s o a w h hl hl'
theorem spot_lt {n : Nat} (s o a : Int) (hn : 1 ≤ n) : spot n s o a < n := by
  unfold spot
  have q1 := Int.emod_nonneg (hsh s o a) (show (n : Int) ≠ 0 by omega)
  have q2 := Int.emod_lt_of_pos (hsh s o a) (show (0 : Int) < n by omega)
  omega
def Pl.key (p : Pl) (s o a : Int) : Bool := p.held && (p.s == s && p.o == o && p.a == a)
def find (l : List Pl) (s o a : Int) : Option Nat := l.findIdx? (Pl.key · s o a)
def ofFind : Option Nat → Int
  | some i => (i : Nat)
  | none => -1
theorem find_some {l : List Pl} {s o a : Int} {k : Nat} {p : Pl} (h0 : ∀ (j : Nat) (q : Pl), j < k → l[j]? = some q → q.key s o a = false) (hp : l[k]? = some p) (hk : p.key s o a = true) : find l s o a = some k := by
  unfold find
  rw [List.findIdx?_eq_some_iff_getElem]
  have hlt := (List.getElem?_eq_some_iff.1 hp).1
  refine ⟨hlt, ?_, fun j hj => ?_⟩
  · rw [List.getElem?_eq_getElem hlt] at hp; cases hp; exact hk
  · have := h0 j l[j] hj (List.getElem?_eq_getElem _); rw [this]; simp
theorem find_none {l : List Pl} {s o a : Int} (h0 : ∀ (j : Nat) (q : Pl), l[j]? = some q → q.key s o a = false) : find l s o a = none := by
  unfold find
  rw [List.findIdx?_eq_none_iff]
  intro p hp
  obtain ⟨j, hj⟩ := List.getElem?_of_mem hp
  exact h0 j p hj
theorem step {l : List Pl} {s o a : Int} {k : Nat} {p : Pl} (h0 : ∀ (j : Nat) (q : Pl), j < k → l[j]? = some q → q.key s o a = false) (hp : l[k]? = some p) (hk : p.key s o a = false) : ∀ (j : Nat) (q : Pl), j < k + 1 → l[j]? = some q → q.key s o a = false := by
  intro j q hj hq
  by_cases h : j = k
  · subst h; rw [hp] at hq; cases hq; exact hk
  · exact h0 j q (by omega) hq
set_option maxHeartbeats 1000000 in
theorem at_any (b n : Nat) (S : St) (s o a : Int) (i : Nat) (l : List Pl) (hand : Nat) (w : World) (h : CacheB w b n S) (hl : 1 ≤ S.rows.length) (hl' : S.rows.length ≤ 256) (hn : n ≤ 8) (hi : spot S.rows.length s o a = i) (hr : S.rows[i]? = some (l, hand)) :
    Calls Try.prog 28 #[.pointer (some ⟨b + 1, 0, none⟩), .agg #[.int .i64 s, .int .i64 o, .int .i64 a]] w fun e w' => e = .returned (.tuple #[.pointer (some ⟨b, i * 2, none⟩), .int .i64 (ofFind (find l s o a))]) ∧ Below w.heap.size w w' := by
  have C := Mm.hid h
  have hilt : i < S.rows.length := (List.getElem?_eq_some_iff.1 hr).1
  have R := Mm.hid hr
  have I := Mm.hid hi
  have b1 := h.cache.lt
  have c0 : w.cell? ⟨b + 1, 0, none⟩ = some (.slice (some ⟨b, 0, none⟩) S.rows.length S.rows.length) := h.cache.cell 0
  have B1 := Mm.hid ((Below.refl w.heap.size w).alloc (Nat.le_refl _) (.cells #[.int .i64 s, .int .i64 o, .int .i64 a] 69))
  have C1 := Mm.hid (C.out.below B1.out)
  have X1 := Mm.hid (Blk.new w #[.int .i64 s, .int .i64 o, .int .i64 a] 69)
  have L1 : Hid ((h.rows i (l, hand) hr).1 = (h.rows i (l, hand) hr).1) := rfl
  have llen : l.length = n := (h.rows i (l, hand) hr).1
  clear h hr hi L1
  have d0 : (w.alloc (.cells #[.int .i64 s, .int .i64 o, .int .i64 a] 69)).cell? ⟨b + 1, 0, none⟩ = some (.slice (some ⟨b, 0, none⟩) S.rows.length S.rows.length) := C1.out.cache.cell 0
  have d1 : (w.alloc (.cells #[.int .i64 s, .int .i64 o, .int .i64 a] 69)).cell? ⟨w.heap.size, 0, none⟩ = some (.int .i64 s) := X1.out.cell 0
  have d2 : (w.alloc (.cells #[.int .i64 s, .int .i64 o, .int .i64 a] 69)).cell? ⟨w.heap.size, 1, none⟩ = some (.int .i64 o) := X1.out.cell 1
  have d3 : (w.alloc (.cells #[.int .i64 s, .int .i64 o, .int .i64 a] 69)).cell? ⟨w.heap.size, 2, none⟩ = some (.int .i64 a) := X1.out.cell 2
  have d4 : (w.alloc (.cells #[.int .i64 s, .int .i64 o, .int .i64 a] 69)).cell? ⟨b, i * 2, none⟩ = some (.slice (some ⟨b + 2 + i, 0, none⟩) n n) :=
    C1.out.sets.cell (fQ_len n) (i := i) (j := 0) (by rw [List.getElem?_mapIdx, R.out]; rfl) (by decide) rfl
  go_enter Try.func28, Try.ntmps28
  go_wp2_with fail
  go_quiet ((go_at_call 24; exact Calls.quiet_of_same (spot_any' b n S s o a i _ C1.out.drewN hl hl' I.out)))
  go_wp2_with fail
  clear d0 d1 d2 d3 d4 c0
  go_loopw [7, 8, 27] (fun _ _ i wr => ∃ k : Nat, k ≤ n ∧ i = .int .i64 (k : Nat) ∧ Hid (∀ (j : Nat) (q : Pl), j < k → l[j]? = some q → q.key s o a = false) ∧ Hid (Below (w.heap.size + 1) (w.alloc (.cells #[.int .i64 s, .int .i64 o, .int .i64 a] 69)) wr)) (fun _ _ i _ => n - (intOf i).toNat)
  case atStart => exact ⟨0, Nat.zero_le _, rfl, fun j q h => absurd h (by omega), ⟨rfl, rfl, rfl, by simp, fun _ _ => rfl⟩⟩
  case round =>
    obtain ⟨k, hk, rfl, HF, HB⟩ := hrel
    have hsz : w.heap.size + 1 ≤ wr.heap.size := by have := HB.out.size; simpa using this
    have BW := Mm.hid (B1.out.trans (HB.out.mono (Nat.le_succ _)))
    have e1 : wr.cell? ⟨w.heap.size, 0, none⟩ = some (.int .i64 s) := (X1.out.keep (HB.out.block _ (Nat.lt_succ_self _))).cell 0
    have e2 : wr.cell? ⟨w.heap.size, 1, none⟩ = some (.int .i64 o) := (X1.out.keep (HB.out.block _ (Nat.lt_succ_self _))).cell 1
    have e3 : wr.cell? ⟨w.heap.size, 2, none⟩ = some (.int .i64 a) := (X1.out.keep (HB.out.block _ (Nat.lt_succ_self _))).cell 2
    by_cases hlt : k < n
    · have hp : l[k]? = some l[k] := List.getElem?_eq_getElem (by omega)
      have F : Flat wr (b + 2 + i) 74 fP l := ((C.out.rows i _ R.out).2).keep (BW.out.block _ (C.out.rows i _ R.out).2.lt)
      generalize l[k] = p at *
      obtain ⟨ph, ps, po, pa, pt, pal, pm⟩ := p
      have f0 : wr.cell? ⟨b + 2 + i, k * 7, none⟩ = some (.bool ph) := F.cell fP_len hp (j := 0) (by decide) rfl
      have f1 : wr.cell? ⟨b + 2 + i, k * 7 + 1, none⟩ = some (.int .i64 ps) := F.cell fP_len hp (j := 1) (by decide) rfl
      have f2 : wr.cell? ⟨b + 2 + i, k * 7 + 2, none⟩ = some (.int .i64 po) := F.cell fP_len hp (j := 2) (by decide) rfl
      have f3 : wr.cell? ⟨b + 2 + i, k * 7 + 3, none⟩ = some (.int .i64 pa) := F.cell fP_len hp (j := 3) (by decide) rfl
      have f4 : wr.cell? ⟨b + 2 + i, k * 7 + 4, none⟩ = some (.int .i64 pt) := F.cell fP_len hp (j := 4) (by decide) rfl
      have f5 : wr.cell? ⟨b + 2 + i, k * 7 + 5, none⟩ = some (.bool pal) := F.cell fP_len hp (j := 5) (by decide) rfl
      have f6 : wr.cell? ⟨b + 2 + i, k * 7 + 6, none⟩ = some (.bool pm) := F.cell fP_len hp (j := 6) (by decide) rfl
      have P := Mm.hid hp
      have XA := Mm.hid ((X1.out.keep (HB.out.block _ (Nat.lt_succ_self _))).keep (Below.heap_alloc wr (.cells #[.bool ph, .int .i64 ps, .int .i64 po, .int .i64 pa, .int .i64 pt, .bool pal, .bool pm] 74) _ hsz))
      have g1 : (wr.alloc (.cells #[.bool ph, .int .i64 ps, .int .i64 po, .int .i64 pa, .int .i64 pt, .bool pal, .bool pm] 74)).cell? ⟨w.heap.size, 0, none⟩ = some (.int .i64 s) := XA.out.cell 0
      have g2 : (wr.alloc (.cells #[.bool ph, .int .i64 ps, .int .i64 po, .int .i64 pa, .int .i64 pt, .bool pal, .bool pm] 74)).cell? ⟨w.heap.size, 1, none⟩ = some (.int .i64 o) := XA.out.cell 1
      have g3 : (wr.alloc (.cells #[.bool ph, .int .i64 ps, .int .i64 po, .int .i64 pa, .int .i64 pt, .bool pal, .bool pm] 74)).cell? ⟨w.heap.size, 2, none⟩ = some (.int .i64 a) := XA.out.cell 2
      clear F hp
      cases ph
      · go_wp2
        go_roundw
        case rel => exact ⟨k + 1, by omega, by go_num, step HF.out P.out rfl, HB.out.alloc (by omega) _⟩
        case measure => simp [intOf]; omega
      · by_cases hm : (ps == s && (po == o && pa == a)) = true
        · have q := eq69' ps po pa s o a true hm
          have hfn : Hid (find l s o a = some k) := find_some HF.out P.out (by show (true && (ps == s && po == o && pa == a)) = true; rw [← hm]; simp [Bool.and_assoc])
          have BB := Mm.hid (BW.out.alloc (by omega) (.cells #[.bool true, .int .i64 ps, .int .i64 po, .int .i64 pa, .int .i64 pt, .bool pal, .bool pm] 74))
          clear hm
          go_wp2
          go_ret2
          exact ⟨by rw [hfn.out]; rfl, BB.out⟩
        · have q := eq69' ps po pa s o a false (by simpa using hm)
          have HF' : Hid (∀ (j : Nat) (q : Pl), j < k + 1 → l[j]? = some q → q.key s o a = false) := step HF.out P.out (by show (true && (ps == s && po == o && pa == a)) = false; rw [Bool.true_and, Bool.and_assoc]; simpa using hm)
          clear hm
          go_wp2
          go_roundw
          case rel => exact ⟨k + 1, by omega, by go_num, HF'.out, HB.out.alloc (by omega) _⟩
          case measure => simp [intOf]; omega
    · have hfn : Hid (find l s o a = none) := find_none fun j q hq => HF.out j q (by have := (List.getElem?_eq_some_iff.1 hq).1; omega) hq
      go_wp2
      go_ret2
      exact ⟨by rw [hfn.out]; rfl, BW.out⟩
end Go.Proofs.Ythojgfnaanckeaa

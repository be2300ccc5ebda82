/- Walks: a cache: New, what a new one tells; the law AvcNew. -/
import Derived.Test.YthojgfnaanckeaaRows
import Derived.Test.YthojgfnaanckeaaRows2
import Derived.Deep.RegionHeld3
import Derived.BigRegion
import Derived.BigQuiet
namespace Go.Proofs.Ythojgfnaanckeaa
open Go.RowKit Go.Mm
theorem new_bad (s n : Int) (w : World) (h : s < 1 ∨ 256 < s ∨ n < 1 ∨ 8 < n) :
    Calls Try.prog 11 #[.int .i64 s, .int .i64 n] w fun e w' => e = .returned (.tuple #[.pointer none, .int .i64 190]) ∧ w = w' := by
  have key : s < 1 ∨ (¬ s < 1 ∧ 256 < s) ∨ (¬ s < 1 ∧ ¬ 256 < s ∧ n < 1) ∨ (¬ s < 1 ∧ ¬ 256 < s ∧ ¬ n < 1 ∧ 8 < n) := by omega
  clear h
  rcases key with h | ⟨h1, h2⟩ | ⟨h1, h2, h3⟩ | ⟨h1, h2, h3, h4⟩
  all_goals
    go_enter Try.func11, Try.ntmps11
    go_wp2
    go_ret2
    exact ⟨rfl, rfl⟩
structure Pl where
  held : Bool
  s : Int
  o : Int
  a : Int
  tag : Int
  allowed : Bool
  marked : Bool
def fP (p : Pl) : List Value := [.bool p.held, .int .i64 p.s, .int .i64 p.o, .int .i64 p.a, .int .i64 p.tag, .bool p.allowed, .bool p.marked]
def Pl.none : Pl := ⟨false, 0, 0, 0, 0, false, false⟩
def fQ (n : Nat) (q : Option Nat × Nat) : List Value := [match q.1 with | .none => .slice .none 0 0 | some b => .slice (some ⟨b, 0, .none⟩) n n, .int .i64 (q.2 : Nat)]
theorem info66 : (Try.prog.info? 66).map (fun i => (i.zero, i.size, i.bytes)) = some (some (.agg #[.slice none 0 0, .int .i64 0]), 2, 32) := by kernel_rfl
theorem info74 : (Try.prog.info? 74).map (fun i => (i.zero, i.size, i.bytes)) = some (some (.agg #[.bool false, .int .i64 0, .int .i64 0, .int .i64 0, .int .i64 0, .bool false, .bool false]), 7, 48) := by kernel_rfl
theorem make61 (n s : Nat) (h : s ≤ 256) (W : World) : (Instr.makeSlice 61 (.int .i64 (s : Int)) (.int .i64 (s : Int))).run Try.prog W = .ok (.slice (some ⟨W.heap.size, 0, none⟩) s s) (W.alloc (.cells ((List.replicate s (none, 0)).flatMap (fQ n)).toArray 66)) :=
  run_make_flat (fQ n) (none, 0) Try.underlying61 info66 rfl (by decide) rfl s (by omega) (by omega) W
theorem make64 (n : Nat) (h : n ≤ 8) (W : World) : (Instr.makeSlice 64 (.int .i64 (n : Int)) (.int .i64 (n : Int))).run Try.prog W = .ok (.slice (some ⟨W.heap.size, 0, none⟩) n n) (W.alloc (.cells ((List.replicate n Pl.none).flatMap fP).toArray 74)) :=
  run_make_flat fP Pl.none Try.underlying64 info74 rfl (by decide) rfl n (by omega) (by omega) W
/-- the set blocks, k of them made -/
def hd (b k : Nat) (s : Nat) : List (Option Nat × Nat) := (List.range s).map fun i => (if i < k then some (b + 2 + i) else none, 0)
theorem hd_zero (b s : Nat) : hd b 0 s = List.replicate s (none, 0) := by
  unfold hd
  apply List.ext_getElem?
  intro i
  simp [List.getElem?_map, List.getElem?_range, List.getElem?_replicate]
  by_cases h : i < s <;> simp [h]
theorem hd_get {b k s i : Nat} (h : i < s) : (hd b k s)[i]? = some (if i < k then some (b + 2 + i) else none, 0) := by
  unfold hd; rw [List.getElem?_map, List.getElem?_range h]; rfl
theorem hd_set {b k s : Nat} : (hd b k s).set k (some (b + 2 + k), 0) = hd b (k + 1) s := by
  unfold hd
  apply List.ext_getElem?
  intro i
  rw [List.getElem?_set]
  simp only [List.getElem?_map, List.length_map, List.length_range]
  by_cases h : i < s
  · rw [List.getElem?_range h]
    by_cases hk : k = i
    · subst hk; simp [h]
    · simp only [if_neg hk, Option.map_some, Option.some.injEq, Prod.mk.injEq, and_true]
      by_cases h1 : i < k
      · rw [if_pos h1, if_pos (by omega)]
      · rw [if_neg h1, if_neg (by omega)]
  · rw [List.getElem?_eq_none (by simp; omega)]
    by_cases hk : k = i
    · subst hk; simp [h]
    · simp [hk]
theorem fQ_len (n : Nat) (q : Option Nat × Nat) : (fQ n q).length = 2 := rfl
theorem fP_len (p : Pl) : (fP p).length = 7 := rfl
/-- k sets made -/
structure Making (w w' : World) (b n s k : Nat) : Prop where
  cache : Blk w' (b + 1) 63 #[.slice (some ⟨b, 0, none⟩) s s, .int .i64 0, .int .i64 0, .int .i64 0, .int .i64 0]
  sets : Flat w' b 66 (fQ n) (hd b k s)
  rows : ∀ i, i < k → Flat w' (b + 2 + i) 74 fP (List.replicate n Pl.none)
  size : w'.heap.size = b + 2 + k
  below : Below b w w'
theorem Making.step {w wr : World} {b n s k : Nat} (h : Making w wr b n s k) (hk : k < s) :
    Making w (((wr.alloc (.cells ((List.replicate n Pl.none).flatMap fP).toArray 74)).setCell ⟨b, k * 2, none⟩ (.slice (some ⟨b + 2 + k, 0, none⟩) n n)).drew) b n s (k + 1) := by
  have k0 : Blk (wr.alloc (.cells ((List.replicate n Pl.none).flatMap fP).toArray 74)) (b + 1) 63 _ := h.cache.keep (Below.heap_alloc wr _ _ h.cache.lt)
  have k1 : Flat (wr.alloc (.cells ((List.replicate n Pl.none).flatMap fP).toArray 74)) b 66 (fQ n) _ := h.sets.keep (Below.heap_alloc wr _ _ h.sets.lt)
  have k2 : Flat (wr.alloc (.cells ((List.replicate n Pl.none).flatMap fP).toArray 74)) wr.heap.size 74 fP _ := Blk.new wr _ 74
  rw [h.size] at k2
  have hs := Fr.setCell (wr.alloc (.cells ((List.replicate n Pl.none).flatMap fP).toArray 74)) ⟨b, k * 2, none⟩ (.slice (some ⟨b + 2 + k, 0, none⟩) n n)
  have ha := Fr.alloc (fun _ => False) wr (.cells ((List.replicate n Pl.none).flatMap fP).toArray 74)
  refine ⟨hs.blk k0 (by show ¬ b + 1 = b; omega), ?_, fun i hi => ?_, ?_, ?_⟩
  · have := k1.set (fQ_len n) (i := k) (j := 0) (some (b + 2 + k), 0) (u := .slice (some ⟨b + 2 + k, 0, none⟩) n n) (hd_get hk) (by decide) rfl
    rw [hd_set] at this
    exact this
  · by_cases hik : i = k
    · subst hik
      exact hs.blk k2 (by show ¬ b + 2 + i = b; omega)
    · exact hs.blk (ha.blk (h.rows i (by omega)) id) (by show ¬ b + 2 + i = b; omega)
  · show ((wr.alloc _).setCell _ _).heap.size = _
    simp [World.setCell, h.size]; omega
  · have h1 := h.below.alloc (by have := h.size; omega) (.cells ((List.replicate n Pl.none).flatMap fP).toArray 74)
    exact (h1.trans (hs.below (B := b) (fun g hg => Nat.le_of_eq hg.symm) (by simp [h.size]; omega))).drew
set_option maxHeartbeats 1000000 in
theorem new_good' (s n : Nat) (w : World) (b : Nat) (hb : w.heap.size = b) (h1 : 1 ≤ s) (h2 : s ≤ 256) (h3 : 1 ≤ n) (h4 : n ≤ 8) :
    Calls Try.prog 11 #[.int .i64 s, .int .i64 n] w fun e w' => e = .returned (.tuple #[.pointer (some ⟨b + 1, 0, none⟩), .int .i64 0]) ∧ Making w w' b n s s := by
  have i1 : ¬ (s : Int) < 1 := by omega
  have i2 : ¬ (256 : Int) < s := by omega
  have i3 : ¬ (n : Int) < 1 := by omega
  have i4 : ¬ (8 : Int) < n := by omega
  have mk1 := make61 n s h2
  have mk2 := make64 n h4
  have M0 : Hid (Making w ((w.alloc (.cells ((List.replicate s (none, 0)).flatMap (fQ n)).toArray 66)).alloc (.cells #[.slice (some ⟨b, 0, none⟩) s s, .int .i64 0, .int .i64 0, .int .i64 0, .int .i64 0] 63)) b n s 0) := by
    subst hb
    refine ⟨?_, ?_, fun i h => absurd h (by omega), by simp, ((Below.refl _ w).alloc (Nat.le_refl _) _).alloc (by simp) _⟩
    · have := Blk.new (w.alloc (.cells ((List.replicate s (none, 0)).flatMap (fQ n)).toArray 66)) #[.slice (some ⟨w.heap.size, 0, none⟩) s s, .int .i64 0, .int .i64 0, .int .i64 0, .int .i64 0] 63
      rwa [show (w.alloc (.cells ((List.replicate s (none, 0)).flatMap (fQ n)).toArray 66)).heap.size = w.heap.size + 1 by simp] at this
    · rw [hd_zero]
      have h := Blk.new w ((List.replicate s (none, 0)).flatMap (fQ n)).toArray 66
      exact Blk.keep h (Below.heap_alloc _ _ _ h.lt)
  go_enter Try.func11, Try.ntmps11
  go_wp2_with fail
  go_loopw [7, 31] (fun _ i wr => ∃ k : Nat, k ≤ s ∧ i = .int .i64 (k : Nat) ∧ Hid (Making w wr b n s k)) (fun _ i _ => s - (intOf i).toNat)
  case atStart => exact ⟨0, Nat.zero_le _, rfl, M0⟩
  case round =>
    obtain ⟨k, hk, rfl, HM⟩ := hrel
    clear M0 mk1
    by_cases hlt : k < s
    · have c0 : wr.cell? ⟨b + 1, 0, none⟩ = some (.slice (some ⟨b, 0, none⟩) s s) := HM.out.cache.cell 0
      have c1 : wr.cell? ⟨b, k * 2, none⟩ = some (.slice none 0 0) := HM.out.sets.cell (fQ_len n) (hd_get hlt) (j := 0) (by decide) (by rw [if_neg (Nat.lt_irrefl k)]; rfl)
      have c2 : wr.frozen? ⟨b, k * 2, none⟩ = false := HM.out.sets.free _
      have hsz := HM.out.size
      have k0 : Blk (wr.alloc (.cells ((List.replicate n Pl.none).flatMap fP).toArray 74)) (b + 1) 63 _ := HM.out.cache.keep (Below.heap_alloc wr _ _ HM.out.cache.lt)
      have k1 : Flat (wr.alloc (.cells ((List.replicate n Pl.none).flatMap fP).toArray 74)) b 66 (fQ n) _ := HM.out.sets.keep (Below.heap_alloc wr _ _ HM.out.sets.lt)
      have k2 : Flat (wr.alloc (.cells ((List.replicate n Pl.none).flatMap fP).toArray 74)) wr.heap.size 74 fP _ := Blk.new wr _ 74
      rw [hsz] at k2
      have d0 : (wr.alloc (.cells ((List.replicate n Pl.none).flatMap fP).toArray 74)).cell? ⟨b + 1, 0, none⟩ = some (.slice (some ⟨b, 0, none⟩) s s) := k0.cell 0
      have d1 : (wr.alloc (.cells ((List.replicate n Pl.none).flatMap fP).toArray 74)).cell? ⟨b, k * 2, none⟩ = some (.slice none 0 0) := k1.cell (fQ_len n) (hd_get hlt) (j := 0) (by decide) (by rw [if_neg (Nat.lt_irrefl k)]; rfl)
      have d2 : (wr.alloc (.cells ((List.replicate n Pl.none).flatMap fP).toArray 74)).frozen? ⟨b, k * 2, none⟩ = false := k1.free _
      clear k0 k1 k2
      go_wp2
      go_region
      all_goals go_wp2
      go_roundw
      case rel => exact ⟨k + 1, by omega, by go_num, HM.out.step hlt⟩
      case measure => simp [intOf]; omega
    · go_wp2
      go_ret2
      have : k = s := by omega
      subst this
      exact ⟨rfl, HM.out⟩
/-- a cache -/
structure St where
  rows : List (List Pl × Nat)
  hits : Int
  misses : Int
  ev : Int
  held : Int
structure CacheB (w : World) (b n : Nat) (S : St) : Prop where
  cache : Blk w (b + 1) 63 #[.slice (some ⟨b, 0, none⟩) S.rows.length S.rows.length, .int .i64 S.hits, .int .i64 S.misses, .int .i64 S.ev, .int .i64 S.held]
  sets : Flat w b 66 (fQ n) (S.rows.mapIdx fun i r => (some (b + 2 + i), r.2))
  rows : ∀ i r, S.rows[i]? = some r → r.1.length = n ∧ Flat w (b + 2 + i) 74 fP r.1
def St.new (s n : Nat) : St := ⟨List.replicate s (List.replicate n Pl.none, 0), 0, 0, 0, 0⟩
theorem Making.done {w w' : World} {b n s : Nat} (h : Making w w' b n s s) : CacheB w' b n (St.new s n) := by
  refine ⟨?_, ?_, fun i r hi => ?_⟩
  · simp only [St.new, List.length_replicate]; exact h.cache
  · have : (St.new s n).rows.mapIdx (fun i r => (some (b + 2 + i), r.2)) = hd b s s := by
      unfold St.new hd
      apply List.ext_getElem?
      intro i
      simp only [List.getElem?_mapIdx, List.getElem?_replicate, List.getElem?_map]
      by_cases hi : i < s
      · rw [List.getElem?_range hi]; simp [hi]
      · rw [List.getElem?_eq_none (by simp; omega)]; simp [hi]
    rw [this]; exact h.sets
  · simp only [St.new, List.getElem?_replicate] at hi
    split at hi
    · rename_i hlt
      cases hi
      exact ⟨by simp, h.rows i hlt⟩
    · cases hi
theorem new_good (s n : Nat) (w : World) (h1 : 1 ≤ s) (h2 : s ≤ 256) (h3 : 1 ≤ n) (h4 : n ≤ 8) :
    Calls Try.prog 11 #[.int .i64 s, .int .i64 n] w fun e w' => e = .returned (.tuple #[.pointer (some ⟨w.heap.size + 1, 0, none⟩), .int .i64 0]) ∧ CacheB w' w.heap.size n (St.new s n) ∧ Below w.heap.size w w' := by
  refine (new_good' s n w _ rfl h1 h2 h3 h4).mono ?_
  rintro e w' ⟨he, hm⟩
  exact ⟨he, hm.done, hm.below⟩
theorem CacheB.keep {w w' : World} {b n : Nat} {S : St} (h : CacheB w b n S) (hk : ∀ k, b ≤ k → k < w.heap.size → w'.heap[k]? = w.heap[k]?) : CacheB w' b n S :=
  ⟨h.cache.keep (hk _ (by omega) h.cache.lt), h.sets.keep (hk _ (Nat.le_refl _) h.sets.lt), fun i r hi => ⟨(h.rows i r hi).1, (h.rows i r hi).2.keep (hk _ (by omega) (h.rows i r hi).2.lt)⟩⟩
theorem CacheB.below {w w' : World} {b n : Nat} {S : St} (h : CacheB w b n S) (hb : Below w.heap.size w w') : CacheB w' b n S := h.keep fun k _ hk => hb.block k hk
theorem stats_any {b n : Nat} {S : St} (w : World) (h : CacheB w b n S) :
    Calls Try.prog 12 #[.pointer (some ⟨b + 1, 0, none⟩)] w fun e w' => e = .returned (.agg #[.int .i64 S.hits, .int .i64 S.misses, .int .i64 S.ev, .int .i64 S.held]) ∧ Below w.heap.size w w' := by
  have c1 : w.cell? ⟨b + 1, 1, none⟩ = some (.int .i64 S.hits) := h.cache.cell 1
  have c2 : w.cell? ⟨b + 1, 2, none⟩ = some (.int .i64 S.misses) := h.cache.cell 2
  have c3 : w.cell? ⟨b + 1, 3, none⟩ = some (.int .i64 S.ev) := h.cache.cell 3
  have c4 : w.cell? ⟨b + 1, 4, none⟩ = some (.int .i64 S.held) := h.cache.cell 4
  have hlt := h.cache.lt
  clear h
  go_enter Try.func12, Try.ntmps12
  go_wp2
  refine bodyPost_ret (v := .agg #[.int .i64 S.hits, .int .i64 S.misses, .int .i64 S.ev, .int .i64 S.held]) (by simp [results, Try.results12, go_sem]) rfl ⟨rfl, ?_⟩
  exact (Below.refl _ w).alloc (Nat.le_refl _) _
theorem ratio_none {b n : Nat} {S : St} (w : World) (h : CacheB w b n S) (h1 : S.hits = 0) (h2 : S.misses = 0) :
    Calls Try.prog 13 #[.pointer (some ⟨b + 1, 0, none⟩)] w fun e w' => e = .returned (.float .f64 0) ∧ Below w.heap.size w w' := by
  have c1 : w.cell? ⟨b + 1, 1, none⟩ = some (.int .i64 0) := by rw [← h1]; exact h.cache.cell 1
  have c2 : w.cell? ⟨b + 1, 2, none⟩ = some (.int .i64 0) := by rw [← h2]; exact h.cache.cell 2
  clear h
  go_enter Try.func13, Try.ntmps13
  go_wp2_with fail
  go_quiet (fail)
  go_wp2
  go_ret
  exact ⟨rfl, rfl, rfl, rfl, Nat.le_refl _, fun _ _ => rfl⟩
theorem rnew_bad (s n : Int) (w : World) (h : s < 1 ∨ 256 < s ∨ n < 1 ∨ 8 < n) :
    Calls Try.prog 10 #[.int .i64 s, .int .i64 n] w fun e w' => e = .returned (.tuple #[.pointer none, .int .i64 190]) ∧ w = w' := by
  have key : s < 1 ∨ (¬ s < 1 ∧ 256 < s) ∨ (¬ s < 1 ∧ ¬ 256 < s ∧ n < 1) ∨ (¬ s < 1 ∧ ¬ 256 < s ∧ ¬ n < 1 ∧ 8 < n) := by omega
  clear h
  rcases key with h | ⟨h1, h2⟩ | ⟨h1, h2, h3⟩ | ⟨h1, h2, h3, h4⟩
  all_goals
    go_enter Try.func10, Try.ntmps10
    go_wp2
    go_ret2
    exact ⟨rfl, rfl⟩
theorem info3 : (Try.prog.info? 3).map (fun i => (i.zero, i.size, i.bytes)) = some (some (.int .i64 0), 1, 8) := by kernel_rfl
def fH (h : Nat) : List Value := [.int .i64 (h : Nat)]
theorem make55 (s : Nat) (h : s ≤ 256) (W : World) : (Instr.makeSlice 55 (.int .i64 (s : Int)) (.int .i64 (s : Int))).run Try.prog W = .ok (.slice (some ⟨W.heap.size, 0, none⟩) s s) (W.alloc (.cells ((List.replicate s 0).flatMap fH).toArray 3)) :=
  run_make_flat fH 0 Try.underlying55 info3 rfl (by decide) rfl s (by omega) (by omega) W
/-- the document's cache, new -/
theorem rnew_good (s n : Nat) (w : World) (h1 : 1 ≤ s) (h2 : s ≤ 256) (h3 : 1 ≤ n) (h4 : n ≤ 8) :
    Calls Try.prog 10 #[.int .i64 s, .int .i64 n] w fun e w' => e = .returned (.tuple #[.pointer (some ⟨w.heap.size + 1, 0, none⟩), .int .i64 0]) ∧
      w' = (w.alloc (.cells ((List.replicate s 0).flatMap fH).toArray 3)).alloc (.cells #[.int .i64 s, .int .i64 n, .slice (some ⟨w.heap.size, 0, none⟩) s s, .slice none 0 0, .int .i64 0, .int .i64 0, .int .i64 0] 60) := by
  have i1 : ¬ (s : Int) < 1 := by omega
  have i2 : ¬ (256 : Int) < s := by omega
  have i3 : ¬ (n : Int) < 1 := by omega
  have i4 : ¬ (8 : Int) < n := by omega
  have mk1 := make55 s h2
  go_enter Try.func10, Try.ntmps10
  go_wp2
  go_ret2
  exact ⟨rfl, rfl⟩
theorem law_new (s n : Int) (w : World) (hs : (Lit.int .i64 s).wf = true) (hn : (Lit.int .i64 n).wf = true) :
    Calls Try.prog 3 #[.int .i64 s, .int .i64 n] w fun e w' => e = .returned (.bool true) ∧ Below w.heap.size w w' := by
  by_cases h : s < 1 ∨ 256 < s ∨ n < 1 ∨ 8 < n
  · clear hs hn
    have H := Mm.hid h
    clear h
    go_enter Try.func3, Try.ntmps3
    go_wp2_with fail
    refine (rnew_bad s n _ H.out).mono ?_
    rintro e w1 ⟨rfl, rfl⟩
    go_wp2_with fail
    refine (new_bad s n _ H.out).mono ?_
    rintro e w1 ⟨rfl, rfl⟩
    go_wp2_with fail
    go_ret
    exact ⟨rfl, Below.refl _ _⟩
  · obtain ⟨s, rfl⟩ := Int.eq_ofNat_of_zero_le (show 0 ≤ s by omega)
    obtain ⟨n, rfl⟩ := Int.eq_ofNat_of_zero_le (show 0 ≤ n by omega)
    have h1 : 1 ≤ s := by omega
    have h2 : s ≤ 256 := by omega
    have h3 : 1 ≤ n := by omega
    have h4 : n ≤ 8 := by omega
    clear hs hn h
    go_enter Try.func3, Try.ntmps3
    go_wp2_with fail
    refine (rnew_good s n _ h1 h2 h3 h4).mono ?_
    rintro e w1 ⟨rfl, hw1⟩
    have B1 : Hid (Below w.heap.size w w1) := by rw [hw1]; exact ((Below.refl _ w).alloc (Nat.le_refl _) _).alloc (by simp) _
    clear hw1
    go_wp2_with fail
    refine (new_good s n _ h1 h2 h3 h4).mono ?_
    rintro e w2 ⟨rfl, hc, hb⟩
    have B2 := Mm.hid (B1.out.trans (hb.mono B1.out.size))
    have C2 := Mm.hid hc
    clear hc hb B1
    go_wp2_with fail
    refine (stats_any _ C2.out).mono ?_
    rintro e w3 ⟨rfl, hb⟩
    have C3 : Hid (CacheB w3 w1.heap.size n (St.new s n)) := C2.out.below hb
    have B3 := Mm.hid (B2.out.trans (hb.mono B2.out.size))
    clear hb
    go_wp2_with fail
    refine (ratio_none _ C3.out rfl rfl).mono ?_
    rintro e w4 ⟨rfl, hb⟩
    have B4 := Mm.hid (B3.out.trans (hb.mono B3.out.size))
    clear hb
    go_wp2_with fail
    go_ret
    exact ⟨rfl, B4.out⟩
end Go.Proofs.Ythojgfnaanckeaa

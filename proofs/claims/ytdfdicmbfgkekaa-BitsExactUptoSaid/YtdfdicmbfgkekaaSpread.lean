/- Walks: a mask spread; blocks written whole. -/
import Derived.Test.YtdfdicmbfgkekaaMask
import Derived.Deep.DeepMust
namespace Go.Proofs.Ytdfdicmbfgkekaa
open Go.RowKit Go.Mm Go.Bs
def over (cs : Array Value) : Nat → List Value → Array Value
  | _, [] => cs
  | o, v :: r => over (cs.setIfInBounds o v) (o + 1) r
theorem over_get : ∀ (vs : List Value) (cs : Array Value) (o j : Nat), (over cs o vs)[j]? = if o ≤ j ∧ j < o + vs.length ∧ j < cs.size then vs[j - o]? else cs[j]?
  | [], cs, o, j => by rw [if_neg (by simp; omega)]; rfl
  | v :: r, cs, o, j => by
    show (over (cs.setIfInBounds o v) (o + 1) r)[j]? = _
    rw [over_get r, Array.size_setIfInBounds, Array.getElem?_setIfInBounds]
    by_cases h1 : o + 1 ≤ j ∧ j < o + 1 + r.length ∧ j < cs.size
    · rw [if_pos h1, if_pos (by simp only [List.length_cons]; omega), show j - o = (j - (o + 1)) + 1 from by omega, List.getElem?_cons_succ]
    · rw [if_neg h1]
      by_cases h2 : o = j
      · subst h2
        by_cases h3 : o < cs.size
        · rw [if_pos rfl, if_pos h3, if_pos (by simp only [List.length_cons]; omega), Nat.sub_self]; rfl
        · rw [if_pos rfl, if_neg h3, if_neg (by omega)]
          exact (Array.getElem?_eq_none (by omega)).symm
      · rw [if_neg h2, if_neg (by simp only [List.length_cons]; omega)]
theorem over_all {vs : List Value} {cs : Array Value} (h : vs.length = cs.size) : over cs 0 vs = vs.toArray := by
  apply Array.ext_getElem?
  intro j
  rw [over_get]
  by_cases hj : j < cs.size
  · rw [if_pos (by omega)]; simp
  · rw [if_neg (by omega), Array.getElem?_eq_none (by omega), Array.getElem?_eq_none (by simp; omega)]
theorem Blk.sets {g : Nat} {t : TypeId} : ∀ (vs : List Value) (o : Nat) {w : World} {cs : Array Value}, Blk w g t cs → Blk (w.setCells g o vs) g t (over cs o vs)
  | [], _, _, _, h => h
  | v :: r, o, _, _, h => Blk.sets r (o + 1) (h.set o v)
theorem Fr.sets (g : Nat) : ∀ (vs : List Value) (o : Nat) (w : World), Fr (· = g) w (w.setCells g o vs)
  | [], _, w => Fr.refl _ w
  | v :: r, o, w => (Fr.setCell w ⟨g, o, none⟩ v).trans (Fr.sets g r (o + 1) _) fun _ _ h => h
theorem Blk.setAll {g : Nat} {t : TypeId} {w : World} {cs ds : Array Value} (h : Blk w g t cs) (hs : ds.size = cs.size) : Blk (w.setCells g 0 ds.toList) g t ds := by
  have := Blk.sets ds.toList 0 h
  rwa [over_all (by simpa using hs)] at this
theorem Blk.there {g : Nat} {t : TypeId} {w : World} {cs : Array Value} {n : Nat} (h : Blk w g t cs) (hn : n ≤ cs.size) : w.there g 0 n := fun j hj => by
  rw [Nat.zero_add]
  exact ⟨by rw [h.cell, Array.getElem?_eq_getElem (by omega)]; rfl, h.free j⟩
theorem a16_one (f : Nat → Int) : (a16 f).all (·.oneCell') = true := by
  rw [Array.all_eq_true]
  intro i hi
  simp [a16]; rfl
theorem a16_congr {f h : Nat → Int} (e : ∀ j, j < 16 → f j = h j) : a16 f = a16 h := by
  unfold a16
  congr 1
  apply List.ext_getElem?
  intro j
  by_cases hj : j < 16
  · simp [hj, e j hj]
  · simp [hj]
theorem zero16 : (#[.int .i8 0, .int .i8 0, .int .i8 0, .int .i8 0, .int .i8 0, .int .i8 0, .int .i8 0, .int .i8 0, .int .i8 0, .int .i8 0, .int .i8 0, .int .i8 0, .int .i8 0, .int .i8 0, .int .i8 0, .int .i8 0] : Array Value) = a16 fun _ => 0 := rfl
theorem size36 : (Try.prog.info? 36).map (·.size) = some 16 := by kernel_rfl
/-- spread: 1 for what is in -/
def sp (f : Nat → Bool) : Nat → Int := fun k => if f k then 1 else 0
/-- up to the place k -/
def spTo (f : Nat → Bool) (n : Nat) : Nat → Int := fun k => if k < n then sp f k else 0
theorem spTo_set (f : Nat → Bool) (k : Nat) : set16 (spTo f k) k (sp f k) = spTo f (k + 1) := by
  funext j
  unfold set16 spTo
  by_cases e : j = k
  · subst e; simp
  · rw [if_neg e]
    by_cases h : j < k
    · rw [if_pos h, if_pos (by omega)]
    · rw [if_neg h, if_neg (by omega)]
theorem spTo_end (f : Nat → Bool) : a16 (spTo f 16) = a16 (sp f) := a16_congr fun _ hj => if_pos hj
theorem sp_val (m k : Nat) : IntKind.i8.wrap (((m : Int) / 2 ^ k).tmod 2) = sp m.testBit k := by
  have e : ((m : Int) / 2 ^ k) = ((m / 2 ^ k : Nat) : Int) := by simp
  have h := bit_mod m k
  rw [e]
  generalize m / 2 ^ k = q at h
  rw [Int.tmod_eq_emod_of_nonneg (by omega), show ((q : Nat) : Int) % 2 = ((q % 2 : Nat) : Int) from by omega, h]
  unfold sp
  cases m.testBit k <;> rfl
def SpreadEnds (f : Nat → Int) (w : World) (e : Ending) (w' : World) : Prop := e = .returned (.agg (a16 f)) ∧ Below w.heap.size w w'
set_option maxRecDepth 100000 in
set_option maxHeartbeats 2000000 in
theorem spread_any (m : Nat) (_hm : m < 65536) (w : World) : Calls Try.prog 24 #[.int .u16 (m : Int)] w (SpreadEnds (sp m.testBit) w) := by
  have z1 := Blk.new w (a16 fun _ => 0) 36
  have z2 := Blk.new (w.alloc (.cells (a16 fun _ => 0) 36)) (a16 fun _ => 0) 36
  rw [show (w.alloc (.cells (a16 fun _ => 0) 36)).heap.size = w.heap.size + 1 from by simp] at z2
  have B0 : Below w.heap.size w ((w.alloc (.cells (a16 fun _ => 0) 36)).alloc (.cells (a16 fun _ => 0) 36)) := ((Below.refl _ _).alloc (Nat.le_refl _) _).alloc (by simp) _
  have K0 : Hid (Blk ((w.alloc (.cells (a16 fun _ => 0) 36)).alloc (.cells (a16 fun _ => 0) 36)) w.heap.size 36 (a16 fun _ => 0) ∧ Blk ((w.alloc (.cells (a16 fun _ => 0) 36)).alloc (.cells (a16 fun _ => 0) 36)) (w.heap.size + 1) 36 (a16 (spTo m.testBit 0)) ∧ Below w.heap.size w ((w.alloc (.cells (a16 fun _ => 0) 36)).alloc (.cells (a16 fun _ => 0) 36))) :=
    ⟨z1.keep (Below.heap_alloc _ _ _ (by simp)), by rw [a16_congr (f := spTo m.testBit 0) (h := fun _ => 0) fun j _ => if_neg (by omega)]; exact z2, B0⟩
  clear z1 z2 B0
  rw [← zero16] at K0
  go_enter Try.func24, Try.ntmps24
  go_wp2_with fail
  rw [zero16] at K0
  go_loopw [6] (fun i wr => ∃ k : Nat, k ≤ 16 ∧ i = .int .i64 (k : Nat) ∧ Hid (Blk wr w.heap.size 36 (a16 fun _ => 0) ∧ Blk wr (w.heap.size + 1) 36 (a16 (spTo m.testBit k)) ∧ Below w.heap.size w wr)) (fun i _ => 16 - (intOf i).toNat)
  case atStart => exact ⟨0, by omega, rfl, K0.out⟩
  case round =>
    obtain ⟨k, hk, rfl, HK⟩ := hrel
    clear K0
    by_cases hlt : k < 16
    · have ck : wr.cell? ⟨w.heap.size + 1, k, none⟩ = some (.int .i8 (spTo m.testBit k k)) := (HK.out.2.1.cell k).trans (a16_get _ hlt)
      have dk : wr.frozen? ⟨w.heap.size + 1, k, none⟩ = false := HK.out.2.1.free k
      have HB := Mm.hid (bit_mod m k)
      have HV := Mm.hid (sp_val m k)
      have FN : Hid (Blk (wr.setCell ⟨w.heap.size + 1, k, none⟩ (.int .i8 (IntKind.i8.wrap (((m : Int) / 2 ^ k).tmod 2)))) w.heap.size 36 (a16 fun _ => 0) ∧ Blk (wr.setCell ⟨w.heap.size + 1, k, none⟩ (.int .i8 (IntKind.i8.wrap (((m : Int) / 2 ^ k).tmod 2)))) (w.heap.size + 1) 36 (a16 (spTo m.testBit (k + 1))) ∧ Below w.heap.size w (wr.setCell ⟨w.heap.size + 1, k, none⟩ (.int .i8 (IntKind.i8.wrap (((m : Int) / 2 ^ k).tmod 2))))) := by
        have hf := Fr.setCell wr ⟨w.heap.size + 1, k, none⟩ (.int .i8 (IntKind.i8.wrap (((m : Int) / 2 ^ k).tmod 2)))
        refine ⟨hf.blk HK.out.1 (by show w.heap.size ≠ w.heap.size + 1; omega), ?_, HK.out.2.2.trans (hf.below (fun j (e : j = w.heap.size + 1) => by omega) HK.out.2.2.size)⟩
        have := HK.out.2.1.set k (.int .i8 (IntKind.i8.wrap (((m : Int) / 2 ^ k).tmod 2)))
        rwa [a16_set, HV.out, spTo_set, ← HV.out] at this
      clear HB
      go_wp2
      go_roundw
      case rel => exact ⟨k + 1, by omega, by go_num, FN.out⟩
      case measure => simp [intOf]; omega
    · have hkn : k = 16 := by omega
      subst hkn
      have G1 : wr.heap[w.heap.size + 1]? = some (.cells (a16 (sp m.testBit)) 36 (0, 0)) := by have := HK.out.2.1; rw [spTo_end] at this; exact this
      have FN : Hid (Blk (wr.setCells w.heap.size 0 (a16 (sp m.testBit)).toList) w.heap.size 36 (a16 (sp m.testBit)) ∧ Below w.heap.size w (wr.setCells w.heap.size 0 (a16 (sp m.testBit)).toList)) :=
        ⟨Blk.setAll HK.out.1 (by simp [a16_size]), HK.out.2.2.trans ((Fr.sets w.heap.size _ 0 wr).below (fun j (e : j = w.heap.size) => by omega) HK.out.2.2.size)⟩
      have HG := Mm.hid G1
      clear G1
      go_wp2_with (first | (refine wpList_load_row rfl 36 (.tmp 3) rfl (w.heap.size + 1) rfl 36 (a16 (sp m.testBit)) (0, 0) _ HG.out Try.underlying36 rfl (by rw [a16_size]; exact size36) ?_) | (refine wpList_store_mid rfl 36 (.tmp 2) (.tmp 19) rfl w.heap.size 0 (a16 (sp m.testBit)) rfl rfl (Blk.there HK.out.1 (by simp [a16_size])) (by rw [a16_size]; exact size36) (a16_one _) ?_))
      exact bodyPost_ret (results_cell_row (p := 2) (ty := 36) rfl _ _ w.heap.size 36 _ (0, 0) _ rfl FN.out.1 Try.underlying36 rfl (by rw [a16_size]; exact size36)) rfl ⟨rfl, FN.out.2⟩
end Go.Proofs.Ytdfdicmbfgkekaa

/- Walks: the document's words, four by four. -/
import Derived.Test.YtdfdicmbfgkekaaRef3
namespace Go.Proofs.Ytdfdicmbfgkekaa
open Go.RowKit Go.Mm Go.Bs
def bit64 (t : Nat) : Nat := 2 ^ t % 18446744073709551616
theorem bit64_lt {t : Nat} (h : t < 64) : bit64 t = 2 ^ t := Nat.mod_eq_of_lt (Nat.pow_lt_pow_right (a := 2) (n := 64) (by decide) h)
theorem bit64_succ (t : Nat) : IntKind.u64.wrap (((bit64 t : Nat) : Int) * 2) = ((bit64 (t + 1) : Nat) : Int) := by
  unfold bit64; rw [IntKind.wrap_u64, Nat.pow_succ]
  generalize 2 ^ t = x
  omega
theorem sum64 {f : Nat → Bool} {t : Nat} (h : t < 64) : IntKind.u64.wrap (((wsum f t : Nat) : Int) + ((bit64 t : Nat) : Int)) = ((wsum f t + 2 ^ t : Nat) : Int) := by
  have h1 := wsum_lt f t
  have h2 : 2 ^ (t + 1) ≤ 2 ^ 64 := Nat.pow_le_pow_right (by decide) h
  rw [Nat.pow_succ] at h2
  rw [bit64_lt h, IntKind.wrap_u64]
  generalize 2 ^ t = x at h1 h2
  generalize wsum f t = y at h1
  omega
theorem hasB_all (r : Nat) (S : Nat → Bool) (h : ∀ i, r ≤ i → S i = false) (i : Nat) : hasB r S i = S i := by
  rcases Nat.lt_or_ge i r with hi | hi
  · exact hasB_in hi
  · rw [hasB_big (by omega), h i hi]
set_option maxRecDepth 100000 in
set_option maxHeartbeats 2000000 in
theorem rword_any (lo hi b r k : Nat) (S : Nat → Bool) (w : World) (h : RefB lo hi w b r S) (hk : k ≤ 1048576) : Calls Try.prog 62 #[.pointer (some ⟨b, 0, none⟩), .int .i64 (k : Int)] w fun e w' => e = .returned (.int .u64 (word S k : Nat)) ∧ w = w' := by
  have H := Mm.hid h
  obtain ⟨f, hf⟩ : ∃ f : Nat → Bool, (fun j => S (64 * k + j)) = f := ⟨_, rfl⟩
  have HF := Mm.hid hf
  have HW : Hid (word S k = wsum f 64) := Mm.hid (by unfold word; rw [hf])
  clear h hf
  go_enter Try.func62, Try.ntmps62
  go_wp2_with fail
  go_loop [5, 6, 7] (fun x bt i => ∃ t : Nat, t ≤ 64 ∧ i = .int .i64 (64 * (k : Int) + (t : Int)) ∧ bt = .int .u64 ((bit64 t : Nat) : Int) ∧ x = .int .u64 ((wsum f t : Nat) : Int)) (fun _ _ i => 64 + 64 * k - (intOf i).toNat)
  case atStart => exact ⟨0, by omega, by simp, rfl, rfl⟩
  case round =>
    obtain ⟨t, ht, rfl, rfl, rfl⟩ := hrel
    by_cases hlt : t < 64
    · have HB := Mm.hid (bit64_succ t)
      have hc : Hid (64 * (k : Int) + (t : Int) = ((64 * k + t : Nat) : Int)) := Mm.hid (by omega)
      have HC : Hid (Calls Try.prog 52 #[.pointer (some ⟨b, 0, none⟩), .int .i64 (64 * (k : Int) + (t : Int))] w fun e w' => e = .returned (.bool (f t)) ∧ w = w') := by
        have := rhas_any lo hi b r S ((64 * k + t : Nat) : Int) w H.out
        rw [hasB_all r S H.out.rest, ← hc.out, show S (64 * k + t) = f t from by rw [← HF.out]] at this
        exact this
      have HT := Mm.hid (sum64 (f := f) hlt)
      cases hs : f t
      · have HN : Hid (wsum f (t + 1) = wsum f t) := Mm.hid (by show wsum f t + (if f t then 2 ^ t else 0) = _; rw [hs]; rfl)
        rw [hs] at HC
        clear hs
        go_wp2_with fail
        refine HC.out.mono ?_
        rintro e w' ⟨rfl, rfl⟩
        go_wp2
        go_round
        case rel => exact ⟨t + 1, by omega, by congr 1, by rw [HB.out], by rw [HN.out]⟩
        case measure => simp [intOf]; omega
      · have HN : Hid (wsum f (t + 1) = wsum f t + 2 ^ t) := Mm.hid (by show wsum f t + (if f t then 2 ^ t else 0) = _; rw [hs]; rfl)
        rw [hs] at HC
        clear hs
        go_wp2_with fail
        refine HC.out.mono ?_
        rintro e w' ⟨rfl, rfl⟩
        go_wp2
        go_round
        case rel => exact ⟨t + 1, by omega, by congr 1, by rw [HB.out], by rw [HT.out, HN.out]⟩
        case measure => simp [intOf]; omega
    · have ht64 : t = 64 := by omega
      subst ht64
      go_wp2
      go_ret
      exact ⟨ret_u64 (by rw [HW.out]), rfl⟩
def q4 (f : Nat → Nat) : Array Value := #[.int .u64 ((f 0 : Nat) : Int), .int .u64 ((f 1 : Nat) : Int), .int .u64 ((f 2 : Nat) : Int), .int .u64 ((f 3 : Nat) : Int)]
theorem q4_set (f : Nat → Nat) (x t : Nat) (h : t < 4) : (q4 f).setIfInBounds t (.int .u64 (x : Int)) = q4 (fun j => if j = t then x else f j) := by
  rcases t with _ | _ | _ | _ | t
  · rfl
  · rfl
  · rfl
  · rfl
  · omega
theorem q4_get (f : Nat → Nat) {t : Nat} (h : t < 4) : (q4 f)[t]? = some (.int .u64 ((f t : Nat) : Int)) := by
  rcases t with _ | _ | _ | _ | t
  · rfl
  · rfl
  · rfl
  · rfl
  · omega
/-- the words of a quad, the first n of them -/
def qTo (S : Nat → Bool) (k n : Nat) : Nat → Nat := fun j => if j < n then word S (4 * k + j) else 0
theorem qTo_set (S : Nat → Bool) (k n : Nat) (hn : n < 4) : (q4 (qTo S k n)).setIfInBounds n (.int .u64 ((word S (4 * k + n) : Nat) : Int)) = q4 (qTo S k (n + 1)) := by
  rw [q4_set _ _ _ hn]
  congr 1
  funext j
  unfold qTo
  by_cases e : j = n
  · subst e; simp
  · rw [if_neg e]
    by_cases h : j < n
    · rw [if_pos h, if_pos (by omega)]
    · rw [if_neg h, if_neg (by omega)]
set_option maxRecDepth 100000 in
set_option maxHeartbeats 2000000 in
theorem rquad_any (lo hi b r : Nat) (S : Nat → Bool) (k : Int) (w : World) (h : RefB lo hi w b r S) : Calls Try.prog 55 #[.pointer (some ⟨b, 0, none⟩), .int .i64 k] w fun e w' => e = .returned (quadV r S k) ∧ Below w.heap.size w w' := by
  have hm := h.most
  obtain ⟨v, h1, h2, h3⟩ := h.out
  obtain ⟨A, c, rfl, hc, _, _⟩ := own_slice h2
  have c0 : w.cell? ⟨b, 0, none⟩ = some (.slice A r c) := h1.cell 0
  have lb := h1.lt
  have H := Mm.hid h
  clear h h1 h2 h3
  by_cases h0 : 0 ≤ k ∧ k < ((r + 255) / 256 : Nat)
  · have e : quadV r S k = .tuple #[four S k.toNat, .bool true] := if_pos h0
    rw [e]
    obtain ⟨z1, z2⟩ := h0
    obtain ⟨k, rfl⟩ := Int.eq_ofNat_of_zero_le z1
    simp only [Int.toNat_natCast]
    have z3 : k < (r + 255) / 256 := by omega
    have z4 : 256 * (k : Int) < (r : Int) := by omega
    have z5 : (k : Int) ≤ 65536 := by omega
    have K0 : Hid (Blk ((w.alloc (.cells (q4 fun _ => 0) 64)).alloc (.cells (q4 fun _ => 0) 64)) w.heap.size 64 (q4 fun _ => 0) ∧ Blk ((w.alloc (.cells (q4 fun _ => 0) 64)).alloc (.cells (q4 fun _ => 0) 64)) (w.heap.size + 1) 64 (q4 (qTo S k 0)) ∧ Below w.heap.size w ((w.alloc (.cells (q4 fun _ => 0) 64)).alloc (.cells (q4 fun _ => 0) 64))) := by
      have y1 := Blk.new w (q4 fun _ => 0) 64
      have y2 := Blk.new (w.alloc (.cells (q4 fun _ => 0) 64)) (q4 fun _ => 0) 64
      rw [show (w.alloc (.cells (q4 fun _ => 0) 64)).heap.size = w.heap.size + 1 from by simp] at y2
      exact Mm.hid ⟨y1.keep (Below.heap_alloc _ _ _ (by simp)), y2, ((Below.refl _ _).alloc (Nat.le_refl _) _).alloc (by simp) _⟩
    have D : (q4 fun _ => 0) = #[.int .u64 0, .int .u64 0, .int .u64 0, .int .u64 0] := rfl
    rw [D] at K0
    clear e z1 z2 z3 D
    go_enter Try.func55, Try.ntmps55
    go_wp2_with fail
    clear c0
    go_loopw [7] (fun i wr => ∃ t : Nat, t ≤ 4 ∧ i = .int .i64 (t : Nat) ∧ Hid (Blk wr w.heap.size 64 (q4 fun _ => 0) ∧ Blk wr (w.heap.size + 1) 64 (q4 (qTo S k t)) ∧ Below w.heap.size w wr)) (fun i _ => 4 - (intOf i).toNat)
    case atStart => exact ⟨0, by omega, rfl, K0.out⟩
    case round =>
      obtain ⟨t, ht, rfl, HK⟩ := hrel
      clear K0
      by_cases hlt : t < 4
      · have HB := Mm.hid (H.out.below HK.out.2.2)
        have ck : wr.cell? ⟨w.heap.size + 1, t, none⟩ = some (.int .u64 ((qTo S k t t : Nat) : Int)) := (HK.out.2.1.cell t).trans (q4_get _ hlt)
        have dk : wr.frozen? ⟨w.heap.size + 1, t, none⟩ = false := HK.out.2.1.free t
        have hc4 : Hid (4 * (k : Int) + (t : Int) = ((4 * k + t : Nat) : Int)) := Mm.hid (by omega)
        have FN : Hid (Blk (wr.setCell ⟨w.heap.size + 1, t, none⟩ (.int .u64 ((word S (4 * k + t) : Nat) : Int))) w.heap.size 64 (q4 fun _ => 0) ∧ Blk (wr.setCell ⟨w.heap.size + 1, t, none⟩ (.int .u64 ((word S (4 * k + t) : Nat) : Int))) (w.heap.size + 1) 64 (q4 (qTo S k (t + 1))) ∧ Below w.heap.size w (wr.setCell ⟨w.heap.size + 1, t, none⟩ (.int .u64 ((word S (4 * k + t) : Nat) : Int)))) := by
          have hf := Fr.setCell wr ⟨w.heap.size + 1, t, none⟩ (.int .u64 ((word S (4 * k + t) : Nat) : Int))
          refine Mm.hid ⟨hf.blk HK.out.1 (by show w.heap.size ≠ w.heap.size + 1; omega), ?_, HK.out.2.2.trans (hf.below (fun j (e : j = w.heap.size + 1) => by omega) HK.out.2.2.size)⟩
          have := HK.out.2.1.set t (.int .u64 ((word S (4 * k + t) : Nat) : Int))
          rwa [qTo_set S k t hlt] at this
        go_wp2_with fail
        rw [hc4.out]
        refine (rword_any lo hi b r (4 * k + t) S _ HB.out (by omega)).mono ?_
        rintro e w' ⟨rfl, rfl⟩
        go_wp2
        go_roundw
        case rel => exact ⟨t + 1, by omega, by go_num, FN.out⟩
        case measure => simp [intOf]; omega
      · have ht4 : t = 4 := by omega
        subst ht4
        have k0 : wr.cell? ⟨w.heap.size + 1, 0, none⟩ = some (.int .u64 ((word S (4 * k) : Nat) : Int)) := (HK.out.2.1.cell 0).trans (q4_get _ (by decide))
        have k1 : wr.cell? ⟨w.heap.size + 1, 1, none⟩ = some (.int .u64 ((word S (4 * k + 1) : Nat) : Int)) := (HK.out.2.1.cell 1).trans (q4_get _ (by decide))
        have k2 : wr.cell? ⟨w.heap.size + 1, 2, none⟩ = some (.int .u64 ((word S (4 * k + 2) : Nat) : Int)) := (HK.out.2.1.cell 2).trans (q4_get _ (by decide))
        have k3 : wr.cell? ⟨w.heap.size + 1, 3, none⟩ = some (.int .u64 ((word S (4 * k + 3) : Nat) : Int)) := (HK.out.2.1.cell 3).trans (q4_get _ (by decide))
        have j0 : wr.cell? ⟨w.heap.size, 0, none⟩ = some (.int .u64 0) := HK.out.1.cell 0
        have j1 : wr.cell? ⟨w.heap.size, 1, none⟩ = some (.int .u64 0) := HK.out.1.cell 1
        have j2 : wr.cell? ⟨w.heap.size, 2, none⟩ = some (.int .u64 0) := HK.out.1.cell 2
        have j3 : wr.cell? ⟨w.heap.size, 3, none⟩ = some (.int .u64 0) := HK.out.1.cell 3
        have f0 : ∀ t, wr.frozen? ⟨w.heap.size, t, none⟩ = false := fun t => HK.out.1.free t
        have FN : Hid (∀ z, z = (((wr.setCell ⟨w.heap.size, 0, none⟩ (.int .u64 ((word S (4 * k) : Nat) : Int))).setCell ⟨w.heap.size, 1, none⟩ (.int .u64 ((word S (4 * k + 1) : Nat) : Int))).setCell ⟨w.heap.size, 2, none⟩ (.int .u64 ((word S (4 * k + 2) : Nat) : Int))).setCell ⟨w.heap.size, 3, none⟩ (.int .u64 ((word S (4 * k + 3) : Nat) : Int)) → Blk z w.heap.size 64 #[.int .u64 ((word S (4 * k) : Nat) : Int), .int .u64 ((word S (4 * k + 1) : Nat) : Int), .int .u64 ((word S (4 * k + 2) : Nat) : Int), .int .u64 ((word S (4 * k + 3) : Nat) : Int)] ∧ Below w.heap.size w z) := by
          refine Mm.hid fun z hz => ?_
          subst hz
          exact ⟨(((HK.out.1.set 0 _).set 1 _).set 2 _).set 3 _, (((HK.out.2.2.setCell (Nat.le_refl _) _).setCell (Nat.le_refl _) _).setCell (Nat.le_refl _) _).setCell (Nat.le_refl _) _⟩
        go_wp2
        generalize hz : World.setCell _ _ _ = z
        obtain ⟨z1, z2⟩ := FN.out z hz.symm
        have m0 : z.cell? ⟨w.heap.size, 0, none⟩ = some (.int .u64 ((word S (4 * k) : Nat) : Int)) := z1.cell 0
        have m1 : z.cell? ⟨w.heap.size, 1, none⟩ = some (.int .u64 ((word S (4 * k + 1) : Nat) : Int)) := z1.cell 1
        have m2 : z.cell? ⟨w.heap.size, 2, none⟩ = some (.int .u64 ((word S (4 * k + 2) : Nat) : Int)) := z1.cell 2
        have m3 : z.cell? ⟨w.heap.size, 3, none⟩ = some (.int .u64 ((word S (4 * k + 3) : Nat) : Int)) := z1.cell 3
        exact bodyPost_ret (v := .tuple #[four S k, .bool true]) (by simp [results, Try.results55, go_sem, four, wv, m0, m1, m2, m3]) rfl ⟨rfl, z2⟩
  · have e : quadV r S k = .tuple #[four0, .bool false] := if_neg h0
    rw [e]
    clear e
    have FB : ∀ cs cs' : Array Value, Below w.heap.size w ((w.alloc (.cells cs 64)).alloc (.cells cs' 64)) := fun cs cs' => ((Below.refl _ _).alloc (Nat.le_refl _) _).alloc (by simp) _
    have FBH := Mm.hid FB
    clear FB
    by_cases y1 : k < 0
    · clear h0
      go_enter Try.func55, Try.ntmps55
      go_wp2
      exact bodyPost_ret (v := .tuple #[four0, .bool false]) (by simp [results, Try.results55, go_sem, four0]) rfl ⟨rfl, FBH.out _ _⟩
    by_cases y2 : 65536 < k
    · clear h0
      go_enter Try.func55, Try.ntmps55
      go_wp2
      exact bodyPost_ret (v := .tuple #[four0, .bool false]) (by simp [results, Try.results55, go_sem, four0]) rfl ⟨rfl, FBH.out _ _⟩
    · have y3 : (r : Int) ≤ 256 * k := by omega
      clear h0
      go_enter Try.func55, Try.ntmps55
      go_wp2
      exact bodyPost_ret (v := .tuple #[four0, .bool false]) (by simp [results, Try.results55, go_sem, four0]) rfl ⟨rfl, FBH.out _ _⟩
end Go.Proofs.Ytdfdicmbfgkekaa

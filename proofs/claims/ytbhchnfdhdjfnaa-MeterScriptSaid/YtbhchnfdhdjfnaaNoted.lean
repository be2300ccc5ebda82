/- Walk: a meter that has noted. -/
import Derived.Test.YtbhchnfdhdjfnaaSteps
namespace Go.Proofs.Ytbhchnfdhdjfnaa
open Go.RowKit Go.Mm
theorem add_field (a : Addr) (i j : Nat) (h : 0 < j) : a.add (i + j) = ⟨(a.add i).block, (a.add i).off + j, none⟩ := by
  unfold Addr.add
  rw [if_neg (by omega)]
  by_cases hi : i = 0 <;> simp [hi, Nat.add_assoc]
/-- a list of steps that is read, step by step -/
def RdS (w : World) (A : Option Addr) (n : Nat) (xs : List Step) : Prop :=
  xs.length = n ∧ (0 < n → ∃ ad, A = some ad ∧ ad.block < w.heap.size ∧ ∀ i s, xs[i]? = some s → w.cell? (ad.add (i * 3)) = some (.int .i64 s.do_) ∧ w.cell? (ad.add (i * 3 + 1)) = some (.int .i64 s.now) ∧ w.cell? (ad.add (i * 3 + 2)) = some (.int .i64 s.n))
theorem rdS_of {w : World} {A : Option Addr} {n : Nat} {xs : List Step} (hl : xs.length = n) (h : Rd w A n 3 (xs.flatMap fS)) : RdS w A n xs := by
  refine ⟨hl, fun h0 => ?_⟩
  obtain ⟨ad, rfl, hb, hc⟩ := h.2 h0
  refine ⟨ad, rfl, hb, fun i s hs => ?_⟩
  have hlen : ∀ l ∈ xs.map fS, l.length = 3 := by
    intro l hl
    obtain ⟨x, _, rfl⟩ := List.mem_map.1 hl
    rfl
  have key : ∀ j u, (fS s)[j]? = some u → w.cell? (ad.add (i * 3 + j)) = some u := by
    intro j u hu
    refine hc _ _ ?_
    rw [List.flatMap_def]
    exact flatten_at _ hlen i j (fS s) u (by rw [List.getElem?_map, hs]; rfl) hu
  exact ⟨key 0 _ rfl, key 1 _ rfl, key 2 _ rfl⟩
theorem RdS.below {w w' : World} {A : Option Addr} {n : Nat} {xs : List Step} (h : RdS w A n xs) (hb : Below w.heap.size w w') : RdS w' A n xs :=
  ⟨h.1, fun hn => by
    obtain ⟨ad, rfl, hl, hc⟩ := h.2 hn
    have hs : ∀ j, w'.cell? (ad.add j) = w.cell? (ad.add j) := fun j => hb.cell (by rw [add_block]; exact hl)
    exact ⟨ad, rfl, Nat.lt_of_lt_of_le hl hb.size, fun i s h => by rw [hs, hs, hs]; exact hc i s h⟩⟩
def Noted (half : Int) (w : World) (e : Ending) (w' : World) : Prop :=
  ∃ m : Meter, e = .returned (.tuple #[.pointer (some ⟨w.heap.size, 0, none⟩), .int .i64 m.last, .bool true]) ∧ m.half = half ∧ m.ok ∧ m.last ≤ 5860000000000000 ∧ MB w' w.heap.size m ∧ Below w.heap.size w w'
set_option maxHeartbeats 1000000 in
theorem noted_any (half : Int) (A : Option Addr) (n c : Nat) (xs : List Step) (w : World) (hh : 1 ≤ half) (hh' : half ≤ 1000) (h : Sl w 3 24 fS gS A n c xs) :
    Calls Try.prog 33 #[.int .i64 half, .slice A n c] w (Noted half w) := by
  have hn : n ≤ 5865000000000 := by have := h.room; omega
  have HS := Mm.hid (rdS_of h.len h.rd)
  have HG := Mm.hid h.good
  clear h
  go_enter Try.func33, Try.ntmps33
  go_wp2_with fail
  refine (new_good half w hh).mono ?_
  rintro e w1 ⟨rfl, hw⟩
  have HB : Hid (MB w1 w.heap.size ⟨half, 0, 0⟩) := by rw [hw]; exact Blk.new w _ 69
  have B1 : Hid (Below w.heap.size w w1) := by rw [hw]; exact (Below.refl _ w).alloc (Nat.le_refl _) _
  clear hw
  go_wp2_with fail
  go_loopw [9, 10, 11] (fun now i y wr => ∃ (k : Nat) (m : Meter), k ≤ n ∧ i = .int .i64 (k : Nat) ∧ now = .int .i64 m.last ∧ m.last ≤ (k : Int) * 999 ∧ Hid (m.half = half ∧ m.ok) ∧ Hid (MB wr w.heap.size m) ∧ Hid (Below w.heap.size w wr)) (fun _ i _ _ => n - (intOf i).toNat)
  case atStart => exact ⟨0, ⟨half, 0, 0⟩, Nat.zero_le _, rfl, rfl, by simp, ⟨rfl, hh, by show half ≤ _; omega, Int.le_refl 0, by show (0 : Int) ≤ _; decide, Nat.zero_le _⟩, HB, B1⟩
  case round =>
    obtain ⟨k, m, hk, rfl, rfl, hlast, HM, HB, HW⟩ := hrel
    by_cases hlt : k < n
    · obtain ⟨ad, hA, hl, hc⟩ := (HS.out.below HW.out).2 (by omega)
      subst hA
      have hlen := HS.out.1
      have hs := hc k xs[k] (List.getElem?_eq_getElem (by omega))
      rw [add_field _ _ 1 (by decide), add_field _ _ 2 (by decide)] at hs
      have hg := HG.out xs[k] (List.getElem_mem _)
      generalize xs[k] = s at *
      obtain ⟨-, s1, s2⟩ := hs
      obtain ⟨-, g1, g2⟩ := hg
      have b1 := wf64 g1
      have b2 := wf64 g2
      have p1 := Int.emod_nonneg s.now (show (1000 : Int) ≠ 0 by decide)
      have p2 := Int.emod_lt_of_pos s.now (show (0 : Int) < 1000 by decide)
      have p3 := Int.emod_nonneg s.n (show (1000 : Int) ≠ 0 by decide)
      have p4 := Int.emod_lt_of_pos s.n (show (0 : Int) < 1000 by decide)
      have l1 := HM.out.2.2.2.1
      clear hl hc g1 g2 hlen
      go_wp2_with fail
      refine (pick_any _ _ _ (by omega) (by omega) (by omega) (by omega)).mono ?_
      rintro e w' ⟨rfl, rfl⟩
      go_wp2_with fail
      refine (pick_any _ _ _ (by omega) (by omega) (by omega) (by omega)).mono ?_
      rintro e w' ⟨rfl, rfl⟩
      generalize s.now % 1000 = dn at *
      generalize s.n % 1000 = dk at *
      go_wp2_with fail
      refine (note_good m _ (m.last + dn) dk _ HB.out HM.out.2 (by omega) (by omega) (by omega) (by omega)).mono ?_
      rintro e w' ⟨rfl, hb, hf⟩
      have HB' := Mm.hid hb
      have HW' := Mm.hid (HW.out.trans (hf.below (B := w.heap.size) (fun g h => Nat.le_of_eq h.symm) HW.out.size))
      have HM' : Hid ((m.noted (m.last + dn) dk).half = half ∧ (m.noted (m.last + dn) dk).ok) := by
        obtain ⟨a1, a2, a3, a4, a5, a6⟩ := HM.out
        exact ⟨a1, a2, a3, by show 0 ≤ m.last + dn; omega, by show m.last + dn ≤ _; omega, adf_pos (hN_pos a6 _) (pos_ofInt dk p3)⟩
      clear hb hf
      go_wp2
      go_roundw
      case rel => exact ⟨k + 1, _, by omega, by go_num, by show Value.int .i64 (m.last + dn) = _; rfl, by show m.last + dn ≤ _; omega, HM', HB', HW'⟩
      case measure => simp [intOf]; omega
    · go_wp2
      go_ret3
      exact ⟨m, rfl, HM.out.1, HM.out.2, by omega, HB.out, HW.out⟩
end Go.Proofs.Ytbhchnfdhdjfnaa

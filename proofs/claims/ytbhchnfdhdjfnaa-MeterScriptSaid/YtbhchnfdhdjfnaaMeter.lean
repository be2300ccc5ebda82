/- Walks: a meter: New, Rate, Note. -/
import Derived.Test.YtbhchnfdhdjfnaaPos
import Derived.Test.YtbhchnfdhdjfnaaPick
namespace Go.Proofs.Ytbhchnfdhdjfnaa
open Go.RowKit Go.Mm

/-- a meter in memory -/
structure Meter where
  half : Int
  last : Int
  rate : Nat
def Meter.ok (m : Meter) : Prop := 1 ≤ m.half ∧ m.half ≤ 9223372036854775807 ∧ 0 ≤ m.last ∧ m.last ≤ 9223372036854775807 ∧ Pos m.rate
def MB (w : World) (g : Nat) (m : Meter) : Prop := Blk w g 69 #[.int .i64 m.half, .int .i64 m.last, .float .f64 m.rate]
def Meter.at_ (m : Meter) (now : Int) : Nat × Int :=
  if now < 0 then (0, 3) else if now < m.last then (0, 1) else (hN (now / m.half - m.last / m.half).toNat m.rate, 0)
theorem new_bad (half : Int) (w : World) (h : half < 1) :
    Calls Try.prog 28 #[.int .i64 half] w fun e w' => e = .returned (.tuple #[.pointer none, .int .i64 3]) ∧ w = w' := by
  go_enter Try.func28, Try.ntmps28
  go_wp2
  go_ret2
  exact ⟨rfl, rfl⟩
theorem new_good (half : Int) (w : World) (h : 1 ≤ half) :
    Calls Try.prog 28 #[.int .i64 half] w fun e w' => e = .returned (.tuple #[.pointer (some ⟨w.heap.size, 0, none⟩), .int .i64 0]) ∧ w' = w.alloc (.cells #[.int .i64 half, .int .i64 0, .float .f64 0] 69) := by
  go_enter Try.func28, Try.ntmps28
  go_wp2
  go_ret2
  exact ⟨rfl, rfl⟩
def Rated (m : Meter) (now : Int) (w : World) (e : Ending) (w' : World) : Prop :=
  ∃ n, e = .returned (.tuple #[.float .f64 (m.at_ now).1, .int .i64 (m.at_ now).2]) ∧ w' = w.drewN n
theorem Meter.at_neg {m : Meter} {now : Int} (h : now < 0) : m.at_ now = (0, 3) := by unfold Meter.at_; rw [if_pos h]
theorem Meter.at_early {m : Meter} {now : Int} (h : 0 ≤ now) (h' : now < m.last) : m.at_ now = (0, 1) := by unfold Meter.at_; rw [if_neg (by omega), if_pos h']
theorem Meter.at_late {m : Meter} {now : Int} (h : 0 ≤ now) (h' : m.last ≤ now) : m.at_ now = (hN (now / m.half - m.last / m.half).toNat m.rate, 0) := by unfold Meter.at_; rw [if_neg (by omega), if_neg (by omega)]
theorem quo_le {a b h : Int} (hh : 1 ≤ h) (hab : a ≤ b) : a / h ≤ b / h := Int.ediv_le_ediv (by omega) hab
theorem quo_range {a h : Int} (hh : 1 ≤ h) (ha : 0 ≤ a) : 0 ≤ a / h ∧ a / h ≤ a := ⟨Int.ediv_nonneg ha (by omega), Int.ediv_le_self _ ha⟩
set_option maxHeartbeats 1000000 in
theorem rate_any (m : Meter) (g : Nat) (now : Int) (w : World) (hb : MB w g m) (ho : m.ok) (hm : now ≤ 9223372036854775807) :
    Calls Try.prog 30 #[.pointer (some ⟨g, 0, none⟩), .int .i64 now] w (Rated m now w) := by
  obtain ⟨half, last, rate⟩ := m
  obtain ⟨h1', h2, h3, h4, hp⟩ := ho
  simp only at h1' h2 h3 h4 hp
  have c0 : w.cell? ⟨g, 0, none⟩ = some (.int .i64 half) := hb.cell 0
  have c1 : w.cell? ⟨g, 1, none⟩ = some (.int .i64 last) := hb.cell 1
  have c2 : w.cell? ⟨g, 2, none⟩ = some (.float .f64 rate) := hb.cell 2
  by_cases hneg : now < 0
  · have R := Mm.hid (Meter.at_neg (m := ⟨half, last, rate⟩) hneg)
    clear hb
    go_enter Try.func30, Try.ntmps30
    go_wp2
    go_ret2
    exact ⟨0, by rw [R.out]; rfl, rfl⟩
  · by_cases hearly : now < last
    · have R := Mm.hid (Meter.at_early (m := ⟨half, last, rate⟩) (by omega) hearly)
      clear hb
      go_enter Try.func30, Try.ntmps30
      go_wp2
      go_ret2
      exact ⟨0, by rw [R.out]; rfl, rfl⟩
    · have R := Mm.hid (Meter.at_late (m := ⟨half, last, rate⟩) (show 0 ≤ now by omega) (show last ≤ now by omega))
      have q1 := quo_le h1' (show last ≤ now by omega)
      have q2 := quo_range h1' (show 0 ≤ now by omega)
      have q3 := quo_range h1' (show 0 ≤ last by omega)
      have hz : (half == 0) = false := by simp; omega
      have P0 := Mm.hid hp
      clear hb hp
      go_enter Try.func30, Try.ntmps30
      go_wp2_with fail
      go_quiet (fail)
      go_wp2
      have hd0 : 0 ≤ now / half - last / half := by omega
      have hd1 : now / half - last / half ≤ 9223372036854775807 := by omega
      generalize now / half - last / half = d at *
      obtain ⟨t, rfl⟩ := Int.eq_ofNat_of_zero_le hd0
      go_loopw [6, 7] (fun r k wr => ∃ j rr m, r = .float .f64 rr ∧ k = .int .i64 ((j : Nat) : Int) ∧ j ≤ t ∧ Hid (hN j rr = hN t rate) ∧ Hid (Pos rr) ∧ wr = w.drewN m) (fun _ k _ => (intOf k).toNat)
      case atStart => exact ⟨t, rate, nq, rfl, rfl, Nat.le_refl _, rfl, P0, rfl⟩
      case round =>
        obtain ⟨j, rr, mm, rfl, rfl, hj, hN', hP, rfl⟩ := hrel
        have fin : ∀ r, hN j rr = r → r = hN t rate := fun r h => by rw [← h]; exact hN'.out
        by_cases hj0 : j = 0
        · have F := Mm.hid (fin rr (by rw [hj0]; rfl))
          have hle : (j : Int) ≤ 0 := by omega
          clear fin hj0
          go_wp2
          go_ret2
          exact ⟨_, by rw [R.out]; show _ = Ending.returned (.tuple #[.float .f64 (hN t rate), .int .i64 0]); rw [← F.out]; rfl, rfl⟩
        · by_cases hr0 : rr = 0
          · subst hr0
            have F := Mm.hid (fin 0 (hN_zero _))
            have hgt : (FloatKind.f64.format.order 0 0 == some .gt) = false := by decide
            have hjp : (0 : Int) < (j : Int) := by omega
            clear fin
            go_wp2
            go_ret2
            exact ⟨_, by rw [R.out]; show _ = Ending.returned (.tuple #[.float .f64 (hN t rate), .int .i64 0]); rw [← F.out]; rfl, rfl⟩
          · have hgt : (FloatKind.f64.format.order rr 0 == some .gt) = true := by rw [pos_gt hP.out]; simp [hr0]
            have hjp : (0 : Int) < (j : Int) := by omega
            have hq : ∀ W, fres .quo rr 4611686018427387904 W = h1 rr := fun W => fres_h1 hP.out W
            obtain ⟨i, rfl⟩ : ∃ i, j = i + 1 := ⟨j - 1, by omega⟩
            clear fin hj0
            have HR := Mm.hid hr0
            clear hr0
            go_wp2
            go_roundw
            case rel => exact ⟨i, h1 rr, _, rfl, by congr 1, by omega, hN', h1_pos hP.out, rfl⟩
            case measure => simp [intOf]
theorem note_neg (g : Nat) (now n : Int) (w : World) (h : n < 0) :
    Calls Try.prog 29 #[.pointer (some ⟨g, 0, none⟩), .int .i64 now, .int .i64 n] w fun e w' => e = .returned (.int .i64 3) ∧ w = w' := by
  go_enter Try.func29, Try.ntmps29
  go_wp2
  go_ret
  exact ⟨rfl, rfl⟩
theorem note_bad (m : Meter) (g : Nat) (now n : Int) (w : World) (hb : MB w g m) (ho : m.ok) (hm : now ≤ 9223372036854775807) (hn : 0 ≤ n) (hc : (m.at_ now).2 ≠ 0) :
    Calls Try.prog 29 #[.pointer (some ⟨g, 0, none⟩), .int .i64 now, .int .i64 n] w fun e w' => e = .returned (.int .i64 (m.at_ now).2) ∧ ∃ n, w' = w.drewN n := by
  have HB := Mm.hid hb
  have HO := Mm.hid ho
  have hne : ((m.at_ now).2 != 0) = true := by simpa using hc
  have hne2 : ((m.at_ now).2 == 0) = false := by simpa using hc
  clear hb ho hc
  go_enter Try.func29, Try.ntmps29
  go_wp2_with fail
  refine (rate_any m _ _ _ HB.out HO.out (by omega)).mono ?_
  rintro e w1 ⟨k, rfl, rfl⟩
  go_wp2_with fail
  go_ret
  exact ⟨rfl, _, rfl⟩
/-- a note that counts -/
def Meter.noted (m : Meter) (now n : Int) : Meter := ⟨m.half, now, adf (hN (now / m.half - m.last / m.half).toNat m.rate) (floatOfInt .f64 n)⟩
theorem note_good (m : Meter) (g : Nat) (now n : Int) (w : World) (hb : MB w g m) (ho : m.ok) (hm : now ≤ 9223372036854775807) (hn : 0 ≤ n) (h0 : 0 ≤ now) (hl : m.last ≤ now) :
    Calls Try.prog 29 #[.pointer (some ⟨g, 0, none⟩), .int .i64 now, .int .i64 n] w fun e w' => e = .returned (.int .i64 0) ∧ MB w' g (m.noted now n) ∧ Fr (· = g) w w' := by
  have HB := Mm.hid hb
  have HO := Mm.hid ho
  have hat := Meter.at_late h0 hl
  have hat1 : (m.at_ now).1 = hN (now / m.half - m.last / m.half).toNat m.rate := by rw [hat]
  have hat2 : (m.at_ now).2 = 0 := by rw [hat]
  have hP := hN_pos ho.2.2.2.2 (now / m.half - m.last / m.half).toNat
  have hN2 := Mm.hid (show (m.noted now n) = ⟨m.half, now, adf (hN (now / m.half - m.last / m.half).toNat m.rate) (floatOfInt .f64 n)⟩ from rfl)
  have hA : ∀ W, fres .add (hN (now / m.half - m.last / m.half).toNat m.rate) (floatOfInt .f64 n) W = adf (hN (now / m.half - m.last / m.half).toNat m.rate) (floatOfInt .f64 n) := fun W => fres_adf hP (pos_ofInt n hn) W
  clear hb ho hat hP
  generalize hN (now / m.half - m.last / m.half).toNat m.rate = rr at *
  go_enter Try.func29, Try.ntmps29
  go_wp2_with fail
  refine (rate_any m _ _ _ HB.out HO.out (by omega)).mono ?_
  rintro e w1 ⟨k, rfl, rfl⟩
  have b0 := HB.out
  have c1 : w.cell? ⟨g, 1, none⟩ = some (.int .i64 m.last) := b0.cell 1
  have c2 : w.cell? ⟨g, 2, none⟩ = some (.float .f64 m.rate) := b0.cell 2
  have f1 : w.frozen? ⟨g, 1, none⟩ = false := b0.free 1
  have f2 : w.frozen? ⟨g, 2, none⟩ = false := b0.free 2
  clear b0
  go_wp2_with fail
  go_ret
  refine ⟨rfl, ?_, ?_⟩
  · have b1 := (HB.out.set 2 (.float .f64 (adf rr (floatOfInt FloatKind.f64 n)))).set 1 (.int .i64 now)
    unfold MB
    rw [hN2.out]
    exact b1
  · exact (Fr.trans (S := (· = g)) (T := (· = g)) (Fr.drewN (· = g) w _) (Fr.setCell _ ⟨g, 2, none⟩ _) (fun _ _ h => h)).trans (T := (· = g)) (Fr.setCell _ ⟨g, 1, none⟩ _) (fun _ _ h => h)
end Go.Proofs.Ytbhchnfdhdjfnaa

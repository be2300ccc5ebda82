/- Walks: the document's meter: what its notes make, halved, last, Rate. -/
import Derived.Test.YtbhchnfdhdjfnaaHalf
import Derived.Test.YtbhchnfdhdjfnaaSteps
namespace Go.Proofs.Ytbhchnfdhdjfnaa
open Go.RowKit Go.Mm
def HalvedTo (r t : Nat) (w : World) (e : Ending) (w' : World) : Prop := ∃ n, e = .returned (.float .f64 (hN t r)) ∧ w' = w.drewN n
set_option maxHeartbeats 400000 in
theorem halved_any (r : Nat) (d : Int) (w : World) (hp : Pos r) (hd : 0 ≤ d) (hd' : d ≤ 9223372036854775807) :
    Calls Try.prog 38 #[.float .f64 r, .int .i64 d] w (HalvedTo r d.toNat w) := by
  obtain ⟨t, rfl⟩ := Int.eq_ofNat_of_zero_le hd
  rw [Int.toNat_natCast]
  have P0 := Mm.hid hp
  clear hp hd
  go_enter Try.func38, Try.ntmps38
  go_wp2
  go_loopw [0, 1] (fun x k wr => ∃ j rr m, x = .float .f64 rr ∧ k = .int .i64 ((j : Nat) : Int) ∧ j ≤ t ∧ Hid (hN j rr = hN t r) ∧ Hid (Pos rr) ∧ wr = w.drewN m) (fun _ k _ => (intOf k).toNat)
  case atStart => exact ⟨t, r, 0, rfl, rfl, Nat.le_refl _, rfl, P0, rfl⟩
  case round =>
    obtain ⟨j, rr, mm, rfl, rfl, hj, hN', hP, rfl⟩ := hrel
    have fin : ∀ r', hN j rr = r' → r' = hN t r := fun r' h => by rw [← h]; exact hN'.out
    by_cases hj0 : j = 0
    · have F := Mm.hid (fin rr (by rw [hj0]; rfl))
      have hle : (j : Int) ≤ 0 := by omega
      clear fin hj0
      go_wp2
      go_ret
      exact ⟨_, by show _ = Ending.returned (.float .f64 (hN t r)); rw [← F.out]; rfl, rfl⟩
    · by_cases hr0 : rr = 0
      · subst hr0
        have F := Mm.hid (fin 0 (hN_zero _))
        have hgt : (FloatKind.f64.format.order 0 0 != some .eq) = false := by decide
        have hjp : (0 : Int) < (j : Int) := by omega
        clear fin
        go_wp2
        go_ret
        exact ⟨_, by show _ = Ending.returned (.float .f64 (hN t r)); rw [← F.out]; rfl, rfl⟩
      · have hgt : (FloatKind.f64.format.order rr 0 != some .eq) = true := by rw [pos_ne hP.out]; simp [hr0]
        have hjp : (0 : Int) < (j : Int) := by omega
        have hq : ∀ W, fres .quo rr 4611686018427387904 W = h1 rr := fun W => fres_h1 hP.out W
        obtain ⟨i, rfl⟩ : ∃ i, j = i + 1 := ⟨j - 1, by omega⟩
        clear fin hj0
        have HR := Mm.hid hr0
        clear hr0
        go_wp2
        go_roundw
        case rel => exact ⟨i, h1 rr, _, rfl, by congr 1, by omega, hN', h1_pos hP.out, rfl⟩
        case measure => simp [intOf]
/-- what notes make of a meter -/
def ofNotes (half : Int) (l : List (Int × Int)) : Meter := l.foldl (fun m x => m.noted x.1 x.2) ⟨half, 0, 0⟩
theorem ofNotes_snoc (half : Int) (l : List (Int × Int)) (x : Int × Int) : ofNotes half (l ++ [x]) = (ofNotes half l).noted x.1 x.2 := by unfold ofNotes; rw [List.foldl_append]; rfl
theorem ofNotes_half (half : Int) (l : List (Int × Int)) : (ofNotes half l).half = half := by
  have key : ∀ (l : List (Int × Int)) (m : Meter), (l.foldl (fun m x => m.noted x.1 x.2) m).half = m.half := by
    intro l
    induction l with
    | nil => exact fun _ => rfl
    | cons x l ih => exact fun m => ih (m.noted x.1 x.2)
  exact key l _
def fN (x : Int × Int) : List Value := [.int .i64 x.1, .int .i64 x.2]
/-- every prefix of the notes makes a meter; the moments rise -/
def Fine (half : Int) (l : List (Int × Int)) : Prop := ∀ k, k ≤ l.length → (ofNotes half (l.take k)).ok ∧ (∀ x, l[k]? = some x → (ofNotes half (l.take k)).last ≤ x.1 ∧ 0 ≤ x.2 ∧ x.2 ≤ 9223372036854775807)
theorem Fine.nil {half : Int} (h : 1 ≤ half) (h' : half ≤ 9223372036854775807) : Fine half [] := by
  intro k hk
  obtain rfl : k = 0 := by simpa using hk
  exact ⟨⟨h, h', Int.le_refl 0, by show (0 : Int) ≤ _; decide, Nat.zero_le _⟩, fun x hx => by simp at hx⟩
theorem noted_ok {m : Meter} {now n : Int} (h : m.ok) (h1 : m.last ≤ now) (h2 : now ≤ 9223372036854775807) (hn : 0 ≤ n) : (m.noted now n).ok :=
  ⟨h.1, h.2.1, by show 0 ≤ now; have := h.2.2.1; omega, h2, adf_pos (hN_pos h.2.2.2.2 _) (pos_ofInt n hn)⟩
theorem Fine.snoc {half : Int} {l : List (Int × Int)} {x : Int × Int} (h : Fine half l) (h1 : (ofNotes half l).last ≤ x.1) (h2 : x.1 ≤ 9223372036854775807) (h3 : 0 ≤ x.2) (h4 : x.2 ≤ 9223372036854775807) : Fine half (l ++ [x]) := by
  intro k hk
  rw [List.length_append, List.length_singleton] at hk
  have hl := (h l.length (Nat.le_refl _)).1
  rw [List.take_length] at hl
  by_cases hkl : k < l.length
  · rw [List.take_append_of_le_length (by omega), List.getElem?_append_left hkl]
    exact h k (by omega)
  · by_cases hke : k = l.length
    · subst hke
      rw [List.take_append_of_le_length (Nat.le_refl _), List.take_length, List.getElem?_append_right (Nat.le_refl _), Nat.sub_self]
      refine ⟨hl, fun y hy => ?_⟩
      simp at hy
      subst hy
      exact ⟨h1, h3, h4⟩
    · obtain rfl : k = l.length + 1 := by omega
      have e : (l ++ [x]).take (l.length + 1) = l ++ [x] := List.take_of_length_le (by simp)
      rw [e, ofNotes_snoc]
      refine ⟨noted_ok hl h1 h2 h3, fun y hy => ?_⟩
      rw [List.getElem?_eq_none (by simp)] at hy
      cases hy
theorem ofNotes_last (half : Int) (l : List (Int × Int)) (x : Int × Int) (k : Nat) (h : l[k]? = some x) (hk : k + 1 = l.length) : (ofNotes half l).last = x.1 := by
  have hlt : k < l.length := by omega
  have : l = l.take k ++ [x] := by
    conv => lhs; rw [← List.take_append_drop k l]
    congr 1
    rw [List.drop_eq_getElem_cons hlt, List.drop_of_length_le (by omega)]
    rw [List.getElem?_eq_getElem hlt] at h
    cases h; rfl
  rw [this, ofNotes_snoc]; rfl

/-- the document's meter in memory: its own block, and the row of its notes -/
def RM (w : World) (B g : Nat) (half : Int) (l : List (Int × Int)) (v : Value) : Prop :=
  Blk w g 72 #[.int .i64 half, v] ∧ w.ownsRow B 75 2 v l.length (l.flatMap fN)
theorem rm_slice {w : World} {B g : Nat} {half : Int} {l : List (Int × Int)} {v : Value} (h : RM w B g half l v) : ∃ A c, v = .slice A l.length c ∧ (0 < l.length → ∃ b, A = some ⟨b, 0, none⟩ ∧ b < w.heap.size) := by
  rcases h.2.2 with ⟨rfl, h0⟩ | ⟨b, cap, cur, rfl, _, hg, _⟩
  · exact ⟨none, 0, by rw [h0], fun h => by omega⟩
  · exact ⟨_, cap, rfl, fun _ => ⟨b, rfl, (Array.getElem?_eq_some_iff.1 hg).1⟩⟩
theorem rm_cells {w : World} {B g : Nat} {half : Int} {l : List (Int × Int)} {b c : Nat} (h : RM w B g half l (.slice (some ⟨b, 0, none⟩) l.length c)) (i : Nat) (x : Int × Int) (hx : l[i]? = some x) :
    w.cell? ⟨b, i * 2, none⟩ = some (.int .i64 x.1) ∧ w.cell? ⟨b, i * 2 + 1, none⟩ = some (.int .i64 x.2) := by
  have hlen : ∀ y ∈ l.map fN, y.length = 2 := by
    intro y hy
    obtain ⟨z, _, rfl⟩ := List.mem_map.1 hy
    rfl
  have hc := h.2.cells (g := b) rfl
  have key : ∀ j u, (fN x)[j]? = some u → w.cell? ⟨b, i * 2 + j, none⟩ = some u := by
    intro j u hu
    have := hc (i * 2 + j) u (by rw [List.flatMap_def]; exact flatten_at _ hlen i j (fN x) u (by rw [List.getElem?_map, hx]; rfl) hu)
    rwa [add_plain] at this
  exact ⟨key 0 _ rfl, key 1 _ rfl⟩
set_option maxHeartbeats 400000 in
theorem last_any (B g : Nat) (half : Int) (l : List (Int × Int)) (v : Value) (w : World) (h : RM w B g half l v) (hn : l.length ≤ 9223372036854775807) :
    Calls Try.prog 37 #[.pointer (some ⟨g, 0, none⟩)] w fun e w' => e = .returned (.int .i64 (ofNotes half l).last) ∧ ∃ n, w' = w.drewN n := by
  obtain ⟨A, c, rfl, hA⟩ := rm_slice h
  have c1 : w.cell? ⟨g, 1, none⟩ = some (.slice A l.length c) := h.1.cell 1
  by_cases h0 : l.length = 0
  · have e0 : ((l.length : Int) == 0) = true := beq_iff_eq.2 (by omega)
    have L : Hid ((ofNotes half l).last = 0) := by
      have := List.eq_nil_of_length_eq_zero h0
      subst this; rfl
    clear h hA h0
    go_enter Try.func37, Try.ntmps37
    go_wp2
    go_ret
    exact ⟨ret_int L.out.symm, 0, rfl⟩
  · have e0 : ((l.length : Int) == 0) = false := beq_eq_false_iff_ne.2 (by omega)
    obtain ⟨b, rfl, _⟩ := hA (by omega)
    obtain ⟨k, hk⟩ : ∃ k, l.length = k + 1 := ⟨l.length - 1, by omega⟩
    have hkl : k < l.length := by rw [hk]; exact Nat.lt_succ_self k
    have hx : l[k]? = some l[k] := List.getElem?_eq_getElem hkl
    obtain ⟨x1, x2⟩ := rm_cells h k _ hx
    have L := Mm.hid (ofNotes_last half l _ k hx hk.symm)
    generalize l[k] = x at *
    have i1 : (0 : Int) ≤ (l.length : Int) - 1 := by omega
    have i2 : (l.length : Int) - 1 < l.length := by omega
    have i3 : ((l.length : Int) - 1).toNat = k := by omega
    have HK := Mm.hid hk
    clear h hA h0 hx hk hkl
    go_enter Try.func37, Try.ntmps37
    go_wp2_with fail
    go_quiet (fail)
    go_wp2
    go_ret
    exact ⟨ret_int L.out.symm, _, rfl⟩
def RRated (m : Meter) (now : Int) (w : World) (e : Ending) (w' : World) : Prop :=
  e = .returned (.tuple #[.float .f64 (m.at_ now).1, .int .i64 (m.at_ now).2]) ∧ Below w.heap.size w w'
theorem RM.below {w w' : World} {B g : Nat} {half : Int} {l : List (Int × Int)} {v : Value} (h : RM w B g half l v) (hb : Below w.heap.size w w') : RM w' B g half l v :=
  ⟨h.1.keep (hb.block _ h.1.lt), h.2.kept (row := none) (World.grownBy.mk hb.os hb.tape hb.output hb.size fun k hk _ => hb.block k hk) (by cases hv : v.ownBlock <;> simp)⟩
set_option maxHeartbeats 1000000 in
theorem rrate_any (B g : Nat) (half : Int) (l : List (Int × Int)) (v : Value) (now : Int) (w : World) (h : RM w B g half l v) (hf : Fine half l) (hn : l.length ≤ 9223372036854775806) (hnow : now ≤ 9223372036854775807) :
    Calls Try.prog 36 #[.pointer (some ⟨g, 0, none⟩), .int .i64 now] w (RRated (ofNotes half l) now w) := by
  by_cases hneg : now < 0
  · have R := Mm.hid (Meter.at_neg (m := ofNotes half l) hneg)
    clear h hf
    go_enter Try.func36, Try.ntmps36
    go_wp2
    go_ret2
    exact ⟨by rw [R.out]; rfl, Below.refl _ _⟩
  · have hok := hf l.length (Nat.le_refl _)
    rw [List.take_length] at hok
    have hok := hok.1
    by_cases hearly : now < (ofNotes half l).last
    · have R := Mm.hid (Meter.at_early (m := ofNotes half l) (by omega) hearly)
      have H := Mm.hid h
      clear h hf hok
      go_enter Try.func36, Try.ntmps36
      go_wp2_with fail
      refine (last_any B g half l v _ H.out (by omega)).mono ?_
      rintro e w1 ⟨rfl, n, rfl⟩
      go_wp2_with fail
      go_ret2
      exact ⟨by rw [R.out]; rfl, below_drewN n⟩
    · have R := Mm.hid (Meter.at_late (m := ofNotes half l) (show 0 ≤ now by omega) (show (ofNotes half l).last ≤ now by omega))
      have H := Mm.hid h
      have F := Mm.hid hf
      have OK := Mm.hid hok
      have hlast : (ofNotes half l).last ≤ now := by omega
      have hhalf := Mm.hid (ofNotes_half half l)
      clear h hf hok
      go_enter Try.func36, Try.ntmps36
      go_wp2_with fail
      refine (last_any B g half l v _ H.out (by omega)).mono ?_
      rintro e w1 ⟨rfl, n, rfl⟩
      clear hearly
      go_wp2_with fail
      obtain ⟨A, c, rfl, hA⟩ := rm_slice H.out
      have HA := Mm.hid hA
      clear hA
      go_loopw [6, 7, 8, 9] (fun r at_ i y wr => ∃ k : Nat, k ≤ l.length ∧ i = .int .i64 (k : Nat) ∧ r = .float .f64 (ofNotes half (l.take k)).rate ∧ at_ = .int .i64 (ofNotes half (l.take k)).last ∧ Hid (Below w.heap.size w wr)) (fun _ _ i _ _ => l.length - (intOf i).toNat)
      case atStart => exact ⟨0, Nat.zero_le _, rfl, rfl, rfl, below_drewN n⟩
      case round =>
        obtain ⟨k, hk, rfl, rfl, rfl, HB⟩ := hrel
        have HR := Mm.hid (H.out.below HB.out)
        have c0 : wr.cell? ⟨g, 0, none⟩ = some (.int .i64 half) := HR.out.1.cell 0
        have c1 : wr.cell? ⟨g, 1, none⟩ = some (.slice A l.length c) := HR.out.1.cell 1
        have c2 := HR.out.1.lt
        by_cases hlt : k < l.length
        · obtain ⟨b, rfl, hb⟩ := HA.out (by omega)
          have hx : l[k]? = some l[k] := List.getElem?_eq_getElem hlt
          obtain ⟨x1, x2⟩ := rm_cells HR.out k _ hx
          have hs : l.take (k + 1) = l.take k ++ [l[k]] := List.take_succ_eq_append_getElem hlt
          obtain ⟨o1, o2⟩ := F.out k (by omega)
          obtain ⟨o3, o4, o5⟩ := o2 _ hx
          have o6 := (F.out (k + 1) (by omega)).1
          rw [hs, ofNotes_snoc] at o6
          have hh := ofNotes_half half (l.take k)
          have SN := Mm.hid (show ofNotes half (l.take (k + 1)) = (ofNotes half (l.take k)).noted l[k].1 l[k].2 by rw [hs, ofNotes_snoc])
          generalize l[k] = x at *
          generalize ofNotes half (l.take k) = m at *
          have q0 := o1.1
          have q1 := o1.2.2.1
          have q2 : x.1 ≤ 9223372036854775807 := o6.2.2.2.1
          have q3 := o1.2.1
          rw [hh] at q0 q3
          have r1 := quo_le q0 o3
          have r2 := quo_range q0 (show 0 ≤ x.1 by omega)
          have r3 := quo_range q0 q1
          have hz : (half == 0) = false := beq_eq_false_iff_ne.2 (by omega)
          have PM := Mm.hid o1.2.2.2.2
          have HH := Mm.hid hh
          have hbl : b < wr.heap.size := Nat.lt_of_lt_of_le hb HB.out.size
          clear o1 o2 o6 hx hs hh hb
          go_wp2_with fail
          have PH := hN_pos PM.out (x.1 / half - m.last / half).toNat
          have PN := pos_ofInt x.2 o4
          have hA : ∀ W, fres .add (hN (x.1 / half - m.last / half).toNat m.rate) (floatOfInt .f64 x.2) W = adf (hN (x.1 / half - m.last / half).toNat m.rate) (floatOfInt .f64 x.2) := fun W => fres_adf PH PN W
          have hD : fdn .add (hN (x.1 / half - m.last / half).toNat m.rate) (floatOfInt .f64 x.2) = 0 := by
            obtain ⟨q, e, _⟩ := pos_add PH PN
            unfold fdn; rw [e]; rfl
          clear PH PN
          go_quiet ((go_at_call 38; exact Calls.quiet_of ((halved_any _ _ _ PM.out (by omega) (by omega)).mono fun _ _ ⟨n, he, hw⟩ => ⟨he, n, hw⟩)))
          go_wp2
          go_roundw
          case rel => exact ⟨k + 1, by omega, by go_num, by rw [SN.out]; unfold Meter.noted; rw [HH.out], by rw [SN.out]; rfl, (HB.out.alloc HB.out.size _).trans ⟨rfl, rfl, rfl, Nat.le_refl _, fun _ _ => rfl⟩⟩
          case measure => simp [intOf]; omega
        · have e1 : l.take k = l := List.take_of_length_le (by omega)
          have hok := OK.out
          have E1 := Mm.hid e1
          have q0 := hok.1
          have q1 := hok.2.2.1
          have q3 := hok.2.1
          rw [hhalf.out] at q0 q3
          have r1 := quo_le q0 hlast
          have r2 := quo_range q0 (show 0 ≤ now by omega)
          have r3 := quo_range q0 q1
          have hz : (half == 0) = false := beq_eq_false_iff_ne.2 (by omega)
          have PM := Mm.hid hok.2.2.2.2
          clear e1 hok
          rw [E1.out]
          go_wp2_with fail
          go_quiet ((go_at_call 38; exact Calls.quiet_of ((halved_any _ _ _ PM.out (by omega) (by omega)).mono fun _ _ ⟨n, he, hw⟩ => ⟨he, n, hw⟩)))
          go_wp2
          go_ret2
          exact ⟨by rw [R.out, hhalf.out]; rfl, HB.out.trans ⟨rfl, rfl, rfl, Nat.le_refl _, fun _ _ => rfl⟩⟩
end Go.Proofs.Ytbhchnfdhdjfnaa

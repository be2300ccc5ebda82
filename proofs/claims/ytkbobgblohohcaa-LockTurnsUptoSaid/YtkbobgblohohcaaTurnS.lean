/- Walk: a room made. -/
import Derived.Test.YtkbobgblohohcaaTurnR
namespace Go.Proofs.Ytkbobgblohohcaa
open Go.RowKit Go.Mm Go.Cells
theorem info153 : (Try.prog.info? 153).map (fun i => (i.zero, i.size, i.bytes)) = some (some (.agg #[.pointer none, .int .i64 0, .bool false, .int .i64 0]), 4, 32) := by kernel_rfl
theorem new_three (w : World) : Calls Try.prog 19 #[.int .i64 3] w (NewEnds 3 w) := new_good 3 w (by decide) (by decide)
def RoomE (n : Nat) (bg : Int) (w : World) (e : Ending) (w' : World) : Prop := ∃ g rb lL l0 l1 tb cap, e = .returned (.tuple #[.pointer (some ⟨rb, 0, none⟩), .bool true]) ∧ Hid (RS w.heap.size g w rb lL l0 l1 tb n cap bg 0 w')
set_option maxRecDepth 100000 in
set_option maxHeartbeats 2000000 in
theorem room_any (n : Nat) (bg : Int) (w : World) (h1 : 1 ≤ n) (h8 : n ≤ 8) (hbg : bg ≠ poison) (hid : bg = wrap64 (bg + ((0 : Nat) : Int))) : Calls Try.prog 48 #[.int .i64 (n : Int), .int .i64 bg] w (RoomE n bg w) := by
  have HBG := Mm.hid hbg
  have HID := Mm.hid hid
  clear hbg hid
  go_enter Try.func48, Try.ntmps48
  go_wp2_with fail
  refine (new_three _).mono ?_
  rintro e w1 ⟨g, rfl, N1⟩
  have H1 : Hid (HasG w.heap.size g w (fun _ => False) (Cm.new 3) w1) := ⟨_, N1.out.2.1, N1.out.2.2, fun _ h => h.elim⟩
  clear N1
  have x1 : Hid ((Cm.new 3).ws[1]? = some 0) := rfl
  have s1 := Mm.hid (store_ws (y := bg) x1.out (by decide))
  have l1 := Mm.hid (look_good x1.out (by decide)).1
  have q2 : ((Cm.new 3).store (1 : Nat) bg).ws[2]? = some 0 := by rw [s1.out.1]; rfl
  have x2 := Mm.hid q2
  have s2 := Mm.hid (store_ws (y := bg) x2.out (by decide))
  have l2 := Mm.hid (look_good x2.out (by decide)).1
  have BT : Hid (((Cm.new 3).store (1 : Nat) bg).bad = 0 ∧ ((Cm.new 3).store (1 : Nat) bg).tr.length = 1) := ⟨s1.out.2.1, s1.out.2.2⟩
  have T2 : Hid ((((Cm.new 3).store (1 : Nat) bg).store (2 : Nat) bg).tr.length ≤ 2 ∧ (((Cm.new 3).store (1 : Nat) bg).store (2 : Nat) bg).bad ≤ 0) := ⟨by rw [s2.out.2.2, BT.out.2]; decide, by rw [s2.out.2.1, BT.out.1]; decide⟩
  have A1 : Hid ((((Cm.new 3).store (1 : Nat) bg).store (2 : Nat) bg).ws[1]? = some bg) := by show _ = _; rw [s2.out.1, List.getElem?_set, if_neg (by decide), s1.out.1]; exact set_get x1.out
  have A2 : Hid ((((Cm.new 3).store (1 : Nat) bg).store (2 : Nat) bg).ws[2]? = some bg) := by show _ = _; rw [s2.out.1]; exact set_get x2.out
  have LL : Hid ((((Cm.new 3).store (1 : Nat) bg).store (2 : Nat) bg).ws.length = 3) := by show _ = _; rw [s2.out.1, List.length_set, s1.out.1, List.length_set]; rfl
  clear q2
  go_wp2_with fail
  refine (H1.out.op fun F m1 m2 => store_any _ g F _ (1 : Nat) _ bg m1 m2 (by decide) (by decide)).mono ?_
  rintro e w2 ⟨rfl, h2, _⟩
  have L1 : Hid (((Cm.new 3).look ((1 : Nat) : Int)).2 = 0) := by show _ = _; rw [l1.out]
  rw [L1.out]
  have H2 := Mm.hid h2
  clear h2 H1
  go_wp2_with fail
  refine (H2.out.op fun F m1 m2 => store_any _ g F _ (2 : Nat) _ bg m1 m2 (by rw [BT.out.1]; decide) (by rw [BT.out.2]; decide)).mono ?_
  rintro e w3 ⟨rfl, h3, _⟩
  have L2 : Hid ((((Cm.new 3).store (1 : Nat) bg).look ((2 : Nat) : Int)).2 = 0) := by show _ = _; rw [l2.out]
  rw [L2.out]
  have H3 := Mm.hid h3
  clear h3 H2 L1 L2 l1 l2 s1 s2 x1 x2 BT
  generalize (((Cm.new 3).store (1 : Nat) bg).store (2 : Nat) bg) = S at *
  obtain ⟨F3, f3, _⟩ := H3.out.out
  have M3 := Mm.hid f3
  have LC : Hid (lockC 3 1 2 = 0) := by show _ = _; decide
  clear f3
  go_wp2_with fail
  refine (lock_any _ g 3 _ S 1 2 _ M3.out LL.out (by decide)).mono ?_
  rw [LC.out]
  rintro e w4 (⟨h0, _, _⟩ | ⟨_, rfl, hw4⟩)
  · exact absurd rfl h0
  have H4 : Hid (HasG w.heap.size g w (fun k => False ∨ k = w3.heap.size) S w4) := by show HasG _ _ _ _ _ _; rw [hw4]; exact H3.out.grow _
  have K4 : Hid (Blk w4 w3.heap.size 146 #[.pointer (some ⟨g, 0, none⟩), .int .i64 1, .int .i64 2]) := by show Blk _ _ _ _; rw [hw4]; exact Blk.new w3 _ 146
  have hl3 : w.heap.size ≤ w3.heap.size := H3.out.le
  clear hw4 H3 M3
  generalize w3.heap.size = l0 at *
  obtain ⟨F4, f4, _⟩ := H4.out.out
  have M4 := Mm.hid f4
  clear f4
  go_wp2_with fail
  refine (lock_any _ g 3 _ S 1 2 _ M4.out LL.out (by decide)).mono ?_
  rw [LC.out]
  rintro e w5 (⟨h0, _, _⟩ | ⟨_, rfl, hw5⟩)
  · exact absurd rfl h0
  have H5 : Hid (HasG w.heap.size g w (fun k => (False ∨ k = l0) ∨ k = w4.heap.size) S w5) := by show HasG _ _ _ _ _ _; rw [hw5]; exact H4.out.grow _
  have K5 : Hid (Blk w5 w4.heap.size 146 #[.pointer (some ⟨g, 0, none⟩), .int .i64 1, .int .i64 2]) := by show Blk _ _ _ _; rw [hw5]; exact Blk.new w4 _ 146
  have J5 : Hid (Blk w5 l0 146 #[.pointer (some ⟨g, 0, none⟩), .int .i64 1, .int .i64 2]) := by show Blk _ _ _ _; rw [hw5]; exact K4.out.keep (Below.heap_alloc w4 _ _ K4.out.lt)
  have hl4 : w.heap.size ≤ w4.heap.size := H4.out.le
  clear hw5 H4 M4 K4
  generalize w4.heap.size = k1 at *
  go_wp2_with fail
  have lr : (w5.alloc (.cells #[.pointer (some ⟨l0, 0, none⟩), .pointer (some ⟨k1, 0, none⟩)] 64)).heap.size = w5.heap.size + 1 := by simp
  have ST : Hid (RP w.heap.size g w (w5.heap.size + 1) w5.heap.size l0 k1 S 0 (.slice none 0 0) ((w5.alloc (.cells #[.pointer (some ⟨l0, 0, none⟩), .pointer (some ⟨k1, 0, none⟩)] 64)).alloc (.cells #[.pointer (some ⟨g, 0, none⟩), .slice (some ⟨w5.heap.size, 0, none⟩) 2 2, .slice none 0 0, .int .i64 0, .int .i64 0, .slice none 0 0] 79))) := by
    have H6 := H5.out.grow (.cells #[.pointer (some ⟨l0, 0, none⟩), .pointer (some ⟨k1, 0, none⟩)] 64)
    have H7 := H6.grow (.cells #[.pointer (some ⟨g, 0, none⟩), .slice (some ⟨w5.heap.size, 0, none⟩) 2 2, .slice none 0 0, .int .i64 0, .int .i64 0, .slice none 0 0] 79)
    have B7 := Blk.new (w5.alloc (.cells #[.pointer (some ⟨l0, 0, none⟩), .pointer (some ⟨k1, 0, none⟩)] 64)) #[.pointer (some ⟨g, 0, none⟩), .slice (some ⟨w5.heap.size, 0, none⟩) 2 2, .slice none 0 0, .int .i64 0, .int .i64 0, .slice none 0 0] 79
    have h5 := H5.out.le
    rw [lr] at H7 B7
    have up : ∀ k, k < w5.heap.size + 1 → ((w5.alloc (.cells #[.pointer (some ⟨l0, 0, none⟩), .pointer (some ⟨k1, 0, none⟩)] 64)).alloc (.cells #[.pointer (some ⟨g, 0, none⟩), .slice (some ⟨w5.heap.size, 0, none⟩) 2 2, .slice none 0 0, .int .i64 0, .int .i64 0, .slice none 0 0] 79)).heap[k]? = (w5.alloc (.cells #[.pointer (some ⟨l0, 0, none⟩), .pointer (some ⟨k1, 0, none⟩)] 64)).heap[k]? := fun k hk => Below.heap_alloc _ _ _ (by rw [lr]; exact hk)
    have up0 : ∀ k, k < w5.heap.size → (w5.alloc (.cells #[.pointer (some ⟨l0, 0, none⟩), .pointer (some ⟨k1, 0, none⟩)] 64)).heap[k]? = w5.heap[k]? := fun k hk => Below.heap_alloc _ _ _ hk
    have q1 := J5.out.lt
    have q2 := K5.out.lt
    refine ⟨_, H7, ?_, .inr rfl, .inl (.inr rfl), .inl (.inl (.inl (.inr rfl))), .inl (.inl (.inr rfl)), (fun b hb => by cases hb), B7, (Blk.new w5 _ 64).keep (up _ (by omega)), J5.out.keep ((up _ (by omega)).trans (up0 _ q1)), K5.out.keep ((up _ (by omega)).trans (up0 _ q2)), ⟨rfl, .inl ⟨rfl, rfl⟩⟩⟩
    rintro k ((((h | rfl) | rfl) | rfl) | rfl)
    · exact h.elim
    all_goals omega
  clear lr H5 K5 J5 hl3 hl4
  generalize (w5.alloc (.cells #[.pointer (some ⟨l0, 0, none⟩), .pointer (some ⟨k1, 0, none⟩)] 64)).alloc (.cells #[.pointer (some ⟨g, 0, none⟩), .slice (some ⟨w5.heap.size, 0, none⟩) 2 2, .slice none 0 0, .int .i64 0, .int .i64 0, .slice none 0 0] 79) = w6 at *
  generalize w5.heap.size + 1 = rb at *
  generalize w5.heap.size = lL at *
  go_loopw [15] (fun i wr => ∃ j : Nat, j ≤ n ∧ i = .int .i64 (j : Nat) ∧ Hid (∃ v, RP w.heap.size g w rb lL l0 k1 S j v wr)) (fun i _ => n - (intOf i).toNat)
  case atStart => exact ⟨0, Nat.zero_le _, rfl, _, ST.out⟩
  case round =>
    obtain ⟨j, hj, rfl, HK⟩ := hrel
    clear ST
    by_cases hlt : j < n
    · obtain ⟨v, hv⟩ := HK.out
      have P := Mm.hid hv
      obtain ⟨G, p1, p2, p3, p4, p5, p6, p7, p8, p9, p10, p11, p12⟩ := hv
      obtain ⟨A, c, rfl, _, _, _⟩ := own_slice p12
      have c2 : wr.cell? ⟨rb, 2, none⟩ = some (.slice A j c) := p8.cell 2
      have hle := p1.le
      have O := Mm.hid p12
      have B := Mm.hid p8
      have NE := Mm.hid (own_ne p12 p8 (by decide))
      have HO : Hid (∀ u ∈ (#[Value.pointer none, .int .i64 (-1), .bool false, .int .i64 0] : Array Value).toList, u.oneCell' = true) := by intro u hu; simp at hu; rcases hu with rfl | rfl | rfl | rfl <;> rfl
      clear p1 p2 p3 p4 p5 p6 p7 p8 p9 p10 p11 p12 HK
      go_wp2_with (at_builtin; go_must (refine wp_ape1 w.heap.size rfl (.tmp 79) (.tmp 81) 77 153 (.agg #[.pointer none, .int .i64 0, .bool false, .int .i64 0]) 4 32 #[.pointer none, .int .i64 (-1), .bool false, .int .i64 0] rfl Try.underlying77 info153 rfl (by decide) (by decide) (.slice A j c) j _ rfl rfl rfl HO.out O.out (Below.refl _ _) hle (by omega) ?_; intro v1 w7 k1 k2 k3 k4; have hb1 := B.out.keep (k3.block rb B.out.lt (fun e => NE.out e.symm)); have e1 : w7.cell? ⟨rb, 2, none⟩ = some (.slice A j c) := hb1.cell 2; have e2 : w7.frozen? ⟨rb, 2, none⟩ = false := hb1.free 2; have FN := Mm.hid (P.out.push k1 k3 k4); have K1 := Mm.hid k1; clear k1 k2 k3 k4 hb1; obtain ⟨A1, c1, hv, _⟩ := own_slice K1.out; subst hv))
      all_goals (
        clear c2 e1 e2
        generalize w7.setCell ⟨rb, 2, none⟩ (.slice A1 (j + 1) c1) = w8 at *
        go_roundw
        case rel => exact ⟨j + 1, by omega, by go_num, _, FN.out⟩
        case measure => simp [intOf] <;> omega)
    · have hjn : j = n := by omega
      subst hjn
      have FIN : Hid (∃ tb cap, j ≤ cap ∧ RS w.heap.size g w rb lL l0 k1 tb j cap bg 0 wr) := by
        obtain ⟨v, hv⟩ := HK.out
        exact hv.fin (by omega) HID.out A1.out A2.out T2.out.1 T2.out.2
      go_wp2
      go_ret2
      obtain ⟨tb, cap, q1, q2⟩ := FIN.out
      exact ⟨g, rb, lL, l0, k1, tb, cap, rfl, q2⟩
end Go.Proofs.Ytkbobgblohohcaa

/- BitsMasks: the walk. -/
import Derived.Test.YtdfdicmbfgkekaaFolded
import Derived.Test.YtdfdicmbfgkekaaOne
namespace Go.Proofs.Ytdfdicmbfgkekaa
open Go.RowKit Go.Mm Go.Bs Go.ChangeShapes Go.WideShapes
def g16 (_f : Nat → Int) : Prop := True
theorem open_arr {H : Type} {enc : TypeId × Value → H} {w : World} {b0 : Nat} {spare : Nat → Bool} {held : Bool} {v : Value} {d : DataW H} {ps : List MemPlace} (hval : Value.okWide Try.prog w .any b0 36 v) (hd : DataW.Trod enc Try.prog w 0 spare held 36 v d ps) : ∃ f, v = .agg (a16 f) ∧ g16 f := by
  have hval' := hval
  simp only [Value.okWide, Try.underlying36] at hval'
  obtain ⟨cs, rfl, hcs, _⟩ := hval'
  obtain ⟨n, hn⟩ := hd
  obtain ⟨xs, m, _, _, hl, hxl, hall⟩ := DataW.trod_array Try.underlying36 hn
  have hc1 : Try.prog.cellsOf 35 = 1 := by kernel_rfl
  have hc16 : Try.prog.cellsOf 36 = 16 := by kernel_rfl
  rw [hc1] at hall
  rw [hc16] at hl
  have key : ∀ i, i < 16 → ∃ x : Int, (Value.agg cs).cells.toList[i]? = some (.int .i8 x) := by
    intro i hi
    have h := hall i hi
    obtain ⟨x, hx⟩ : ∃ x, xs[i]? = some x := ⟨_, List.getElem?_eq_getElem (by omega)⟩
    rw [hx] at h
    obtain ⟨z, hz, _, _⟩ := DataW.trod_int Try.underlying35 h
    refine ⟨z, ?_⟩
    have : (((Value.agg cs).cells.toList.drop (i * 1)).take 1)[0]? = some (.int .i8 z) := by rw [hz]; rfl
    rw [List.getElem?_take, if_pos (by decide), List.getElem?_drop, Nat.mul_one, Nat.add_zero] at this
    exact this
  let f : Nat → Int := fun i => if h : i < 16 then Classical.choose (key i h) else 0
  refine ⟨f, ?_, trivial⟩
  congr 1
  apply Array.ext_getElem?
  intro i
  by_cases hi : i < 16
  · rw [a16_get f hi]
    have h := Classical.choose_spec (key i hi)
    have hf : f i = Classical.choose (key i hi) := dif_pos hi
    rw [hf]
    simpa [Value.cells] using h
  · rw [Array.getElem?_eq_none (by simp [Value.cells] at hl; omega), Array.getElem?_eq_none (by rw [a16_size]; omega)]
theorem ListEnds.own {l : List Nat} {w w' : World} {e : Ending} (h : ListEnds l w e w') : ∃ A n c, e = .returned (.slice A n c) ∧ n ≤ c ∧ n ≤ 16 ∧ Hid (l.length = n ∧ w'.ownsRow w.heap.size 35 1 (.slice A n c) (i8L l).length (i8L l) ∧ Below w.heap.size w w') := by
  obtain ⟨A, n, c, h1, h2, h3, h4⟩ := h
  exact ⟨A, n, c, h1, h2, h3, h4.1, by rw [i8L_len, h4.1]; exact h4.2.1, h4.2.2⟩
set_option maxRecDepth 100000 in
set_option maxHeartbeats 8000000 in
theorem law_masks (A : Option Addr) (n c : Nat) (xs : List Int) (m : Int) (f : Nat → Int) (w : World) (hs : Sl w 1 8 fI gI A n c xs) (hm : (Lit.int .u16 m).wf = true) (_hf : g16 f) :
    Calls Try.prog 5 #[.slice A n c, .int .u16 m, .agg (a16 f)] w fun e w' => e = .returned (.bool true) ∧ Below w.heap.size w w' := by
  have R := Mm.hid (show Rd w A n 1 (iL xs) from by have := hs.rd; rw [show xs.flatMap fI = iL xs from iL_flat xs] at this; exact this)
  have L := Mm.hid hs.len
  have b1 : n ≤ 17592186043904 := by have := hs.room; omega
  have q1 : n ≤ c := hs.cap
  have hm2 : 0 ≤ m ∧ m ≤ 65535 := by simpa [Lit.wf, IntKind.min, IntKind.max, IntKind.signed, IntKind.bits] using hm
  obtain ⟨m, rfl⟩ := Int.eq_ofNat_of_zero_le hm2.1
  have hmm : m < 65536 := by omega
  have K0 : Hid (Blk (w.alloc (.cells (a16 f) 36)) w.heap.size 36 (a16 f) ∧ Below w.heap.size w (w.alloc (.cells (a16 f) 36))) := Mm.hid ⟨Blk.new _ _ _, (Below.refl _ _).alloc (Nat.le_refl _) _⟩
  clear hs hm hm2
  go_enter Try.func5, Try.ntmps5
  go_wp2_with fail
  refine (fixed_any _).mono ?_
  rintro e w1 ⟨rfl, bl1⟩
  have B1 : Hid (Blk w1 w.heap.size 36 (a16 f) ∧ Below w.heap.size w w1) := Mm.hid ⟨(Fr.of_below bl1).blk K0.out.1 (fun h => h), K0.out.2.trans (bl1.mono K0.out.2.size)⟩
  clear bl1
  go_wp2_with fail
  refine (rlist_any m hmm _).mono ?_
  rintro e w2 h2
  obtain ⟨A0, n0, c0, rfl, hc0, hn0, H2⟩ := h2.own
  clear h2
  obtain ⟨m2, hx2, hm2⟩ : ∃ m2 : Nat, bits .xor .u16 IntKind.u16.max (m : Int) = (m2 : Int) ∧ m2 < 65536 := by
    refine ⟨65535 ^^^ m, ?_, Nat.xor_lt_two_pow (n := 16) (by decide) hmm⟩
    have := u16_xor_nat 65535 m (by decide) hmm
    rw [← this]; rfl
  have HX := Mm.hid hx2
  clear hx2
  go_wp2_with fail
  rw [HX.out]
  refine (rlist_any m2 hm2 _).mono ?_
  rintro e w3 h3
  obtain ⟨A1, n1, c1, rfl, hc1, hn1, H3⟩ := h3.own
  clear h3
  have B3 : Hid (Below w.heap.size w w3 ∧ Blk w3 w.heap.size 36 (a16 f) ∧ Rd w3 A0 n0 1 (i8L (ml m.testBit 16)) ∧ Rd w3 A1 n1 1 (i8L (ml m2.testBit 16))) := by
    have k1 := H2.out.2.2
    have k2 := H3.out.2.2
    have k3 : Below w.heap.size w w2 := B1.out.2.trans (k1.mono B1.out.2.size)
    refine Mm.hid ⟨k3.trans (k2.mono k3.size), (Fr.of_below k2).blk ((Fr.of_below k1).blk B1.out.1 (fun h => h)) (fun h => h), ?_, ?_⟩
    · have := H2.out.2.1
      rw [i8L_len, H2.out.1] at this
      exact (Rd.of_own this).below k2
    · have := H3.out.2.1
      rw [i8L_len, H3.out.1] at this
      exact Rd.of_own this
  have F3 : Hid (Fam w3.heap.size 35 w3 [] [] ∧ Below w3.heap.size w3 w3) := Mm.hid ⟨Fam.nil _ _ _ (Nat.le_refl _), Below.refl _ _⟩
  go_wp2_with fail
  refine (list_any m hmm _).mono ?_
  rintro e w4 h4
  obtain ⟨A4, n4, c4, rfl, hc4, hn4, H4⟩ := h4.own
  clear h4
  have F4 : Hid (Fam w3.heap.size 35 w4 [.slice A4 n4 c4] [i8L (ml m.testBit 16)] ∧ Below w3.heap.size w3 w4) := Mm.hid ⟨F3.out.1.snoc H4.out.2.2 H4.out.2.1, F3.out.2.trans (H4.out.2.2.mono F3.out.2.size)⟩
  have L4 : Hid ((ml m.testBit 16).length = n4) := Mm.hid H4.out.1
  clear H4 F3
  go_wp2_with fail
  refine (list_any m hmm _).mono ?_
  rintro e w5 h5
  obtain ⟨A5, n5, c5, rfl, hc5, hn5, H5⟩ := h5.own
  clear h5
  have F5 : Hid (Fam w3.heap.size 35 w5 [.slice A4 n4 c4, .slice A5 n5 c5] [i8L (ml m.testBit 16), i8L (ml m.testBit 16)] ∧ Below w3.heap.size w3 w5) := Mm.hid ⟨F4.out.1.snoc H5.out.2.2 H5.out.2.1, F4.out.2.trans (H5.out.2.2.mono F4.out.2.size)⟩
  have L5 : Hid ((ml m.testBit 16).length = n5) := Mm.hid H5.out.1
  clear H5 F4
  go_wp2_with fail
  rw [HX.out]
  refine (list_any m2 hm2 _).mono ?_
  rintro e w6 h6
  obtain ⟨A6, n6, c6, rfl, hc6, hn6, H6⟩ := h6.own
  clear h6
  have F6 : Hid (Fam w3.heap.size 35 w6 [.slice A4 n4 c4, .slice A5 n5 c5, .slice A6 n6 c6] [i8L (ml m.testBit 16), i8L (ml m.testBit 16), i8L (ml m2.testBit 16)] ∧ Below w3.heap.size w3 w6) := Mm.hid ⟨F5.out.1.snoc H6.out.2.2 H6.out.2.1, F5.out.2.trans (H6.out.2.2.mono F5.out.2.size)⟩
  have L6 : Hid ((ml m2.testBit 16).length = n6) := Mm.hid H6.out.1
  clear H6 F5
  go_wp2_with fail
  rw [HX.out]
  refine (list_any m2 hm2 _).mono ?_
  rintro e w7 h7
  obtain ⟨A7, n7, c7, rfl, hc7, hn7, H7⟩ := h7.own
  clear h7
  have F7 : Hid (Fam w3.heap.size 35 w7 [.slice A4 n4 c4, .slice A5 n5 c5, .slice A6 n6 c6, .slice A7 n7 c7] [i8L (ml m.testBit 16), i8L (ml m.testBit 16), i8L (ml m2.testBit 16), i8L (ml m2.testBit 16)] ∧ Below w3.heap.size w3 w7) := Mm.hid ⟨F6.out.1.snoc H7.out.2.2 H7.out.2.1, F6.out.2.trans (H7.out.2.2.mono F6.out.2.size)⟩
  have L7 : Hid ((ml m2.testBit 16).length = n7) := Mm.hid H7.out.1
  clear H7 F6
  go_wp2_with fail
  refine (list_any m hmm _).mono ?_
  rintro e w8 h8
  obtain ⟨A8, n8, c8, rfl, hc8, hn8, H8⟩ := h8.own
  clear h8
  have F8 : Hid (Fam w3.heap.size 35 w8 [.slice A4 n4 c4, .slice A5 n5 c5, .slice A6 n6 c6, .slice A7 n7 c7, .slice A8 n8 c8] [i8L (ml m.testBit 16), i8L (ml m.testBit 16), i8L (ml m2.testBit 16), i8L (ml m2.testBit 16), i8L (ml m.testBit 16)] ∧ Below w3.heap.size w3 w8) := Mm.hid ⟨F7.out.1.snoc H8.out.2.2 H8.out.2.1, F7.out.2.trans (H8.out.2.2.mono F7.out.2.size)⟩
  have L8 : Hid ((ml m.testBit 16).length = n8) := Mm.hid H8.out.1
  clear H8 F7
  have RW : Hid (∀ d, Rd (w8.drewN d) A0 n0 1 (i8L (ml m.testBit 16)) ∧ Rd (w8.drewN d) A1 n1 1 (i8L (ml m2.testBit 16))) := Mm.hid fun d => ⟨Rd.drewN (B3.out.2.2.1.below F8.out.2), Rd.drewN (B3.out.2.2.2.below F8.out.2)⟩
  have RG : Hid (∀ (i : Nat) (A' : Option Addr) (n' c' : Nat) (l' : List Nat), ([.slice A4 n4 c4, .slice A5 n5 c5, .slice A6 n6 c6, .slice A7 n7 c7, .slice A8 n8 c8] : List Value)[i]? = some (.slice A' n' c') → [i8L (ml m.testBit 16), i8L (ml m.testBit 16), i8L (ml m2.testBit 16), i8L (ml m2.testBit 16), i8L (ml m.testBit 16)][i]? = some (i8L l') → l'.length = n' → ∀ d, Rd (w8.drewN d) A' n' 1 (i8L l')) := Mm.hid fun i A' n' c' l' h1 h2 h3 d => by
    have := F8.out.1.own i _ _ h1 h2
    rw [i8L_len, h3] at this
    exact Rd.drewN (Rd.of_own this)
  go_wp2_with fail
  refine (same8_any A4 n4 c4 A0 n0 c0 _ _ w8 (by have := RG.out 0 A4 n4 c4 (ml m.testBit 16) rfl rfl L4.out 0; exact this) (by have := (RW.out 0).1; exact this) hc4 hc0 (by omega)).mono ?_
  rintro e w' ⟨rfl, d0, hd0⟩
  subst hd0
  rw [decide_eq_true (rfl : ml m.testBit 16 = ml m.testBit 16)]
  go_wp2_with fail
  refine (same8_any A5 n5 c5 A0 n0 c0 _ _ _ (RG.out 1 A5 n5 c5 (ml m.testBit 16) rfl rfl L5.out _) (RW.out _).1 hc5 hc0 (by omega)).mono ?_
  rintro e w' ⟨rfl, d1, hd1⟩
  rw [World.drewN_drewN] at hd1; subst hd1
  rw [decide_eq_true (rfl : ml m.testBit 16 = ml m.testBit 16)]
  go_wp2_with fail
  refine (same8_any A6 n6 c6 A1 n1 c1 _ _ _ (RG.out 2 A6 n6 c6 (ml m2.testBit 16) rfl rfl L6.out _) (RW.out _).2 hc6 hc1 (by omega)).mono ?_
  rintro e w' ⟨rfl, d2, hd2⟩
  rw [World.drewN_drewN] at hd2; subst hd2
  rw [decide_eq_true (rfl : ml m2.testBit 16 = ml m2.testBit 16)]
  go_wp2_with fail
  refine (same8_any A7 n7 c7 A1 n1 c1 _ _ _ (RG.out 3 A7 n7 c7 (ml m2.testBit 16) rfl rfl L7.out _) (RW.out _).2 hc7 hc1 (by omega)).mono ?_
  rintro e w' ⟨rfl, d3, hd3⟩
  rw [World.drewN_drewN] at hd3; subst hd3
  rw [decide_eq_true (rfl : ml m2.testBit 16 = ml m2.testBit 16)]
  go_wp2_with fail
  refine (same8_any A8 n8 c8 A0 n0 c0 _ _ _ (RG.out 4 A8 n8 c8 (ml m.testBit 16) rfl rfl L8.out _) (RW.out _).1 hc8 hc0 (by omega)).mono ?_
  rintro e w' ⟨rfl, d4, hd4⟩
  rw [World.drewN_drewN] at hd4; subst hd4
  rw [decide_eq_true (rfl : ml m.testBit 16 = ml m.testBit 16)]
  have LI : Hid (∀ d, Lists w3.heap.size 5 (some ⟨w8.heap.size, 0, none⟩) [.slice A4 n4 c4, .slice A5 n5 c5, .slice A6 n6 c6, .slice A7 n7 c7, .slice A8 n8 c8] [i8L (ml m.testBit 16), i8L (ml m.testBit 16), i8L (ml m2.testBit 16), i8L (ml m2.testBit 16), i8L (ml m.testBit 16)] ((w8.drewN d).alloc (.cells #[.slice A4 n4 c4, .slice A5 n5 c5, .slice A6 n6 c6, .slice A7 n7 c7, .slice A8 n8 c8] 37)) ∧ Below w3.heap.size w3 ((w8.drewN d).alloc (.cells #[.slice A4 n4 c4, .slice A5 n5 c5, .slice A6 n6 c6, .slice A7 n7 c7, .slice A8 n8 c8] 37))) := Mm.hid fun d => by
    have fd : Fr (fun _ => False) w8 ((w8.drewN d).alloc (.cells #[.slice A4 n4 c4, .slice A5 n5 c5, .slice A6 n6 c6, .slice A7 n7 c7, .slice A8 n8 c8] 37)) := (Fr.drewN (fun _ => False) w8 d).trans (Fr.alloc (fun _ => False) _ _) (fun _ _ h => h)
    have F := F8.out.1.fr fd (fun _ _ _ _ h => h)
    refine ⟨⟨rfl, rfl, Rd.lit (w8.drewN d) #[.slice A4 n4 c4, .slice A5 n5 c5, .slice A6 n6 c6, .slice A7 n7 c7, .slice A8 n8 c8] 37 5 rfl, F.own, F.dis, fun ad hA => ?_, fun xs hx => ?_⟩, F8.out.2.trans (fd.below (fun _ h => h.elim) F8.out.2.size)⟩
    · injection hA with hA
      subst hA
      rintro ⟨u, hu, hb⟩
      have := (F8.out.1.blk u hu _ hb).2
      simp at this
    · have : ∃ m', xs = i8L (ml m' 16) := by
        simp only [List.mem_cons, List.not_mem_nil, or_false] at hx
        rcases hx with rfl | rfl | rfl | rfl | rfl <;> exact ⟨_, rfl⟩
      obtain ⟨m', rfl⟩ := this
      rw [i8L_len]
      exact ml_len _ 16
  go_wp2_with fail
  refine (apart_any w3.heap.size 5 _ _ _ _ _ (LI.out _).1 (by decide) (by have := F8.out.2.size; simp; omega) (by decide)).mono ?_
  rintro e w10 ⟨rfl, fs⟩
  have SG : Hid (∀ g, Sg [.slice A4 n4 c4, .slice A5 n5 c5, .slice A6 n6 c6, .slice A7 n7 c7, .slice A8 n8 c8] g → w3.heap.size ≤ g) := Mm.hid fun g ⟨u, hu, hb⟩ => (F8.out.1.blk u hu g hb).1
  have B10 : Hid (Below w3.heap.size w3 w10) := Mm.hid ((LI.out _).2.trans (fs.below SG.out (LI.out _).2.size))
  clear fs
  have BW : Hid (Below w.heap.size w w10 ∧ Blk w10 w.heap.size 36 (a16 f)) := Mm.hid ⟨B3.out.1.trans (B10.out.mono B3.out.1.size), (Fr.of_below B10.out).blk B3.out.2.1 (fun h => h)⟩
  go_wp2_with fail
  refine (spread_any m hmm _).mono ?_
  rintro e w11 ⟨rfl, bl11⟩
  go_wp2_with fail
  refine (rspread_any m hmm _).mono ?_
  rintro e w12 ⟨rfl, bl12⟩
  have B12 : Hid (Below w.heap.size w w12 ∧ Blk w12 w.heap.size 36 (a16 f)) := Mm.hid ⟨(BW.out.1.trans (bl11.mono BW.out.1.size)).trans (bl12.mono (Nat.le_trans BW.out.1.size bl11.size)), (Fr.of_below bl12).blk ((Fr.of_below bl11).blk BW.out.2 (fun h => h)) (fun h => h)⟩
  clear bl11 bl12
  have e36 := eq36 (sp m.testBit)
  go_wp2_with fail
  clear e36
  refine (masked_any A n c xs _ (R.out.below B12.out.1) L.out b1 q1).mono ?_
  rintro e w13 ⟨rfl, bl13⟩
  have B13 : Hid (Below w.heap.size w w13 ∧ Blk w13 w.heap.size 36 (a16 f)) := Mm.hid ⟨B12.out.1.trans (bl13.mono B12.out.1.size), (Fr.of_below bl13).blk B12.out.2 (fun h => h)⟩
  clear bl13
  go_wp2_with (refine wp_ld36 rfl (.tmp 5) rfl w.heap.size rfl f B13.out.2 ?_)
  refine (folded_any f _).mono ?_
  rintro e w14 ⟨rfl, bl14⟩
  have B14 : Hid (Below w.heap.size w w14) := Mm.hid (B13.out.1.trans (bl14.mono B13.out.1.size))
  clear bl14
  go_wp2
  go_ret
  exact ⟨rfl, B14.out⟩
end Go.Proofs.Ytdfdicmbfgkekaa

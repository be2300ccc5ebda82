/- BitsOne: the walk. -/
import Derived.Test.YtdfdicmbfgkekaaMade
import Derived.Deep.CutRange
namespace Go.Proofs.Ytdfdicmbfgkekaa
open Go.RowKit Go.Mm Go.Bs
def fI (x : Int) : List Value := [.int .i64 x]
def gI (x : Int) : Prop := (Lit.int .i64 x).wf = true
theorem open_nums {H : Type} {enc : TypeId × Value → H} {w : World} {b0 : Nat} {spare : Nat → Bool} {held : Bool} {v : Value} {d : DataW H} {ps : List MemPlace} {ts : List TypeId} {ds : List (DataW H)} {j : Nat} (hval : Value.okWide Try.prog w .any b0 22 v) (hd : DataW.Trod enc Try.prog w 0 spare held 22 v d ps)
    (hz : (DataW.weightsEach Try.prog ts ds).all (· ≤ reachBytes) = true) (hj : ts[j]? = some 22) (hj' : ds[j]? = some d) :
    ∃ A n c xs, v = .slice A n c ∧ Sl w 1 8 fI gI A n c xs :=
  open_sl fI gI Try.underlying22 (by kernel_rfl) (by decide) (by kernel_rfl) (fun _ _ _ h => by
    obtain ⟨m, rfl, _, hw⟩ := DataW.trod_int Try.underlying3 h
    exact ⟨m, rfl, hw⟩) hval hd hz hj hj'
theorem wf64 {x : Int} (h : (Lit.int .i64 x).wf = true) : -9223372036854775808 ≤ x ∧ x ≤ 9223372036854775807 := by
  simpa [Lit.wf, IntKind.min, IntKind.max, IntKind.signed, IntKind.bits] using h
theorem hasB_neg {r : Nat} {S : Nat → Bool} {i : Int} (h : i < 0) : hasB r S i = false := by unfold hasB; rw [decide_eq_false (by omega)]; rfl
theorem hasB_big {r : Nat} {S : Nat → Bool} {i : Int} (h : (r : Int) ≤ i) : hasB r S i = false := by unfold hasB; rw [decide_eq_false (by omega)]; rfl
theorem hasB_in {r : Nat} {S : Nat → Bool} {k : Nat} (h : k < r) : hasB r S k = S k := by unfold hasB; rw [decide_eq_true (by omega)]; rfl
theorem tr_told_in (r : Nat) (S : Nat → Bool) : ∀ k, k ≤ r → tr (toldL r S (k + 1)) = cnt S k
  | 0, _ => by
    have : toldL r S 1 = [hasB r S (-1)] := rfl
    rw [this, hasB_neg (by decide)]; rfl
  | k + 1, h => by
    rw [← toldL_snoc, tr_snoc, tr_told_in r S k (by omega), show (((k + 1 : Nat) : Int) - 1) = (k : Int) from by omega, hasB_in (by omega)]
    rfl
theorem tr_told (r : Nat) (S : Nat → Bool) : tr (toldL r S (r + 2)) = cnt S r := by
  rw [show r + 2 = (r + 1) + 1 from rfl, ← toldL_snoc, tr_snoc, tr_told_in r S r (Nat.le_refl _), show (((r + 1 : Nat) : Int) - 1) = (r : Int) from by omega, hasB_big (Int.le_refl _)]
  rfl
/-- put in, or taken out -/
def turnS (drop : Bool) (r : Nat) (S : Nat → Bool) (n : Int) : Nat → Bool := if drop then dropS r S n else addS r S n
theorem turn_other (drop : Bool) (r : Nat) (S : Nat → Bool) (n i : Int) (h : i ≠ n) : hasB r (turnS drop r S n) i = hasB r S i := by
  by_cases hi : 0 ≤ i ∧ i < (r : Int)
  · unfold hasB
    congr 1
    unfold turnS addS dropS
    cases drop
    · show (if _ then ins S n.toNat else S) _ = _
      split
      · rename_i hn; exact if_neg (by omega)
      · rfl
    · show (if _ then del S n.toNat else S) _ = _
      split
      · rename_i hn; exact if_neg (by omega)
      · rfl
  · unfold hasB; rw [decide_eq_false hi]; rfl
theorem turn_in (drop : Bool) (r : Nat) (S : Nat → Bool) {k : Nat} (h : k < r) : hasB r (turnS drop r S k) k = !drop := by
  rw [hasB_in h]
  unfold turnS addS dropS
  cases drop
  · show (if _ then ins S _ else S) _ = _
    rw [if_pos (by omega), Int.toNat_natCast]; exact if_pos rfl
  · show (if _ then del S _ else S) _ = _
    rw [if_pos (by omega), Int.toNat_natCast]; exact if_pos rfl
theorem turned_drop (r : Nat) (S : Nat → Bool) (x : Int) : hasB r S x = (decide (0 ≤ x ∧ x < (r : Int)) && (hasB r S x == true)) := by
  unfold hasB; cases decide (0 ≤ x ∧ x < (r : Int)) <;> simp
theorem turned_add (r : Nat) (S : Nat → Bool) (x : Int) : addB r S x = (decide (0 ≤ x ∧ x < (r : Int)) && (hasB r S x == false)) := by
  unfold hasB addB; cases decide (0 ≤ x ∧ x < (r : Int)) <;> simp
theorem roomOf_le (x : Int) : roomOf x ≤ 65536 := by unfold roomOf; omega
set_option maxRecDepth 100000 in
set_option maxHeartbeats 4000000 in
theorem law_one (room : Int) (A : Option Addr) (n c : Nat) (xs : List Int) (x : Int) (drop : Bool) (w : World) (hr : (Lit.int .i64 room).wf = true) (hs : Sl w 1 8 fI gI A n c xs) (hx : (Lit.int .i64 x).wf = true) :
    Calls Try.prog 3 #[.int .i64 room, .slice A n c, .int .i64 x, .bool drop] w fun e w' => e = .returned (.bool true) ∧ Below w.heap.size w w' := by
  have R := Mm.hid (show Rd w A n 1 (iL xs) from by have := hs.rd; rw [show xs.flatMap fI = iL xs from iL_flat xs] at this; exact this)
  have L := Mm.hid hs.len
  have b1 : n ≤ 17592186043904 := by have := hs.room; omega
  have q1 : n ≤ c := hs.cap
  have HW := Mm.hid (wf64 hr)
  obtain ⟨x1, x2⟩ := wf64 hx
  clear hs hr hx
  have hrl := roomOf_le room
  go_enter Try.func3, Try.ntmps3
  go_wp2_with fail
  refine (fixed_any _).mono ?_
  rintro e w0 ⟨rfl, bl0⟩
  have B0 := Mm.hid bl0
  clear bl0
  go_wp2_with fail
  refine (made_any room A n c xs _ HW.out (R.out.below B0.out) L.out b1 q1).mono ?_
  rintro e w1 ⟨a, g, rfl, H1⟩
  obtain ⟨r, hr⟩ : ∃ r, roomOf room = r := ⟨_, rfl⟩
  rw [hr] at H1 hrl
  obtain ⟨S, hS⟩ : ∃ S, addAll r none0 xs = S := ⟨_, rfl⟩
  rw [hS] at H1
  have HR := Mm.hid hr
  clear hr hS
  go_upto_region 5 with (fail)
  go_cut [44] from 23 to 44 (fun t wc => t = .bool false ∧ w1 = wc)
  case first =>
    have hr0 : ¬ (r : Int) < 0 := by omega
    have HD : Hid (Value.bool (decide ((r : Int) < 0) || decide (65536 < (r : Int))) = .bool false) := by
      show _ = _
      rw [decide_eq_false (by omega), decide_eq_false (by omega)]; rfl
    have hr1 : (r : Int) ≤ 65536 := by omega
    by_cases q2 : room < 0
    · go_wp2_with (go_at_call 10; refine (room_any a g r S _ H1.out.1).mono ?_; rintro e w' ⟨rfl, rfl⟩)
      go_meet
      exact ⟨HD.out, rfl⟩
    by_cases q3 : room ≤ 65536
    · have hrm : room = (r : Int) := by have := HR.out; unfold roomOf at this; omega
      subst hrm
      go_wp2_with (go_at_call 10; refine (room_any a g r S _ H1.out.1).mono ?_; rintro e w' ⟨rfl, rfl⟩)
      go_meet
      exact ⟨HD.out, rfl⟩
    · go_wp2_with (go_at_call 10; refine (room_any a g r S _ H1.out.1).mono ?_; rintro e w' ⟨rfl, rfl⟩)
      go_meet
      exact ⟨HD.out, rfl⟩
  case rest =>
    obtain ⟨rfl, rfl⟩ := hcut
    go_wp2_with fail
    refine (told_any a g r S _ H1.out.1).mono ?_
    rintro e w2 ⟨A1, c1, rfl, hc1, T1⟩
    have S2 := Mm.hid (H1.out.1.below T1.out.2)
    have B2 : Hid (Below w.heap.size w w2 ∧ w.heap.size ≤ g) := by
      have h1 := H1.out
      have h0 := B0.out.size
      exact Mm.hid ⟨(B0.out.trans (h1.2.1.mono h0)).trans (T1.out.2.mono (by have := h1.2.1.size; omega)), by omega⟩
    go_wp2_with fail
    refine (has_any a g r S x _ S2.out).mono ?_
    rintro e w' ⟨rfl, rfl⟩
    obtain ⟨hb, hhb⟩ : ∃ b, hasB r S x = b := ⟨_, rfl⟩
    have HB := Mm.hid hhb
    rw [hhb]
    clear hhb
    obtain ⟨S', hS'⟩ : ∃ S', turnS drop r S x = S' := ⟨_, rfl⟩
    have HS := Mm.hid hS'
    clear hS'
    go_upto_if 50 with (fail)
    go_cut [13] from 50 to 56 (fun t wc => t = .bool (decide (0 ≤ x ∧ x < (r : Int)) && (hb == drop)) ∧ Hid (SetB wc a g r S' ∧ Fr (· = g) w2 wc))
    case first =>
      cases drop
      · have HV := Mm.hid (turned_add r S x)
        go_wp2_with fail
        refine (add_any a g r S x _ S2.out).mono ?_
        rintro e w3 ⟨rfl, s3, f3, -⟩
        have s4 : SetB w3 a g r S' := by rw [← HS.out]; exact s3
        have FIN := Mm.hid (And.intro s4 f3)
        clear s3 s4 f3
        go_wp2_with fail
        go_meet
        exact ⟨by rw [HV.out, HB.out], FIN.out⟩
      · have HV := Mm.hid (turned_drop r S x)
        go_wp2_with fail
        refine (drop_any a g r S x _ S2.out).mono ?_
        rintro e w3 ⟨rfl, s3, f3, -⟩
        have s4 : SetB w3 a g r S' := by rw [← HS.out]; exact s3
        have FIN := Mm.hid (And.intro s4 f3)
        clear s3 s4 f3
        go_wp2_with fail
        go_meet
        exact ⟨by rw [← HB.out, ← HV.out], FIN.out⟩
    case rest =>
      obtain ⟨rfl, H3⟩ := hcut
      rename_i wc
      obtain ⟨tb, htb⟩ : ∃ tb, (decide (0 ≤ x ∧ x < (r : Int)) && (hb == drop)) = tb := ⟨_, rfl⟩
      rw [htb]
      have HTB := Mm.hid htb
      clear htb
      go_upto_region 13 with (fail)
      obtain ⟨ft, hft⟩ : ∃ b, decide (0 ≤ x ∧ x < (r : Int)) = b := ⟨_, rfl⟩
      have HFT := Mm.hid hft
      clear hft
      go_cut [14] from 57 to 64 (fun t wd => t = .bool ft ∧ wc = wd)
      case first =>
        by_cases z1 : x < 0
        · have e1 : ft = false := by rw [← HFT.out, decide_eq_false (by omega)]
          subst e1
          go_wp2_with (go_at_call 10; refine (room_any a g r S' _ H3.out.1).mono ?_; rintro e w' ⟨rfl, rfl⟩)
          go_meet
          exact ⟨rfl, rfl⟩
        by_cases z2 : (r : Int) ≤ x
        · have e1 : ft = false := by rw [← HFT.out, decide_eq_false (by omega)]
          subst e1
          have HZ : Hid (Value.bool (decide (x < (r : Int))) = .bool false) := by show _ = _; rw [decide_eq_false (by omega)]
          go_wp2_with (go_at_call 10; refine (room_any a g r S' _ H3.out.1).mono ?_; rintro e w' ⟨rfl, rfl⟩)
          go_meet
          exact ⟨HZ.out, rfl⟩
        · have e1 : ft = true := by rw [← HFT.out, decide_eq_true (by omega)]
          subst e1
          go_wp2_with (go_at_call 10; refine (room_any a g r S' _ H3.out.1).mono ?_; rintro e w' ⟨rfl, rfl⟩)
          go_meet
          exact ⟨rfl, rfl⟩
      case rest =>
      obtain ⟨rfl, rfl⟩ := hcut
      go_upto_region 14 with (fail)
      go_cut [83] from 65 to 83 (fun t wd => t = .bool false ∧ wc = wd)
      case first =>
        have CH : Hid (∀ b, hasB r S' x = b → Calls Try.prog 12 #[.pointer (some ⟨a, 0, none⟩), .int .i64 x] wc fun e w' => e = .returned (.bool b) ∧ wc = w') := Mm.hid fun b hb => by
          have := has_any a g r S' x wc H3.out.1
          rwa [hb] at this
        by_cases z1 : x < 0
        · have e1 : tb = false := by rw [← HTB.out, decide_eq_false (by omega)]; rfl
          have e2 : ft = false := by rw [← HFT.out, decide_eq_false (by omega)]
          subst e1
          subst e2
          have HX := Mm.hid (hasB_neg (r := r) (S := S') z1)
          go_wp2_with (first | (go_at_call 10; refine (room_any a g r S' _ H3.out.1).mono ?_; rintro e w' ⟨rfl, rfl⟩) | (go_at_call 12; refine (CH.out false HX.out).mono ?_; rintro e w' ⟨rfl, rfl⟩))
          go_meet
          exact ⟨rfl, rfl⟩
        by_cases z2 : (r : Int) ≤ x
        · have e1 : tb = false := by rw [← HTB.out, decide_eq_false (by omega)]; rfl
          have e2 : ft = false := by rw [← HFT.out, decide_eq_false (by omega)]
          subst e1
          subst e2
          have HX := Mm.hid (hasB_big (r := r) (S := S') z2)
          go_wp2_with (first | (go_at_call 10; refine (room_any a g r S' _ H3.out.1).mono ?_; rintro e w' ⟨rfl, rfl⟩) | (go_at_call 12; refine (CH.out false HX.out).mono ?_; rintro e w' ⟨rfl, rfl⟩))
          go_meet
          exact ⟨rfl, rfl⟩
        · obtain ⟨k, rfl⟩ := Int.eq_ofNat_of_zero_le (show 0 ≤ x by omega)
          have e1 : tb = (hb == drop) := by rw [← HTB.out, decide_eq_true (by omega)]; rfl
          have e2 : ft = true := by rw [← HFT.out, decide_eq_true (by omega)]
          subst e2
          have HX : Hid (hasB r S' k = !drop) := by show _ = _; rw [← HS.out]; exact turn_in drop r S (by omega)
          cases drop <;> cases hb <;> subst e1
          all_goals
            go_wp2_with (first | (go_at_call 10; refine (room_any a g r S' _ H3.out.1).mono ?_; rintro e w' ⟨rfl, rfl⟩) | (go_at_call 12; refine (CH.out _ HX.out).mono ?_; rintro e w' ⟨rfl, rfl⟩))
            go_meet
            exact ⟨rfl, rfl⟩
      case rest =>
        obtain ⟨rfl, rfl⟩ := hcut
        have B3 : Hid (Below w.heap.size w wc) := Mm.hid (B2.out.1.trans (H3.out.2.below (fun k (e : k = g) => e ▸ B2.out.2) B2.out.1.size))
        go_wp2_with fail
        refine (told_any a g r S' _ H3.out.1).mono ?_
        rintro e w4 ⟨A2, c2, rfl, hc2, T2⟩
        have B4 := Mm.hid (B3.out.trans (T2.out.2.mono B3.out.size))
        have S4 := Mm.hid (H3.out.1.below T2.out.2)
        have R2 := Mm.hid (Rd.of_own T2.out.1)
        have LG : Hid (g < w1.heap.size) := Mm.hid H1.out.1.ws.lt
        have R1 : Hid (Rd w4 A1 (r + 2) 1 (bL (toldL r S (r + 2)))) := by
          refine Mm.hid (Rd.below (Fr.rd H3.out.2 (Rd.of_own T1.out.1) ?_) T2.out.2)
          intro ad hA (e : ad.block = g)
          have := (own_lt T1.out.1 (b := ad.block) (by rw [hA]; rfl)).1
          have := LG.out
          omega
        go_wp2_with fail
        go_loopw [16] (fun i wr => ∃ k : Nat, k ≤ r + 2 ∧ i = .int .i64 (k : Nat) ∧ Hid (∃ m, wr = w4.drewN m)) (fun i _ => r + 2 - (intOf i).toNat)
        case atStart => exact ⟨0, by omega, rfl, 0, rfl⟩
        case round =>
          obtain ⟨k, hk, rfl, HK⟩ := hrel
          obtain ⟨m, rfl⟩ := HK.out
          have hb4 : Below w4.heap.size w4 (w4.drewN m) := (Fr.drewN (fun _ => False) _ m).below (fun _ h => h.elim) (Nat.le_refl _)
          have HB4 := Mm.hid hb4
          clear hb4
          by_cases hlt : k < r + 2
          · obtain ⟨d1, hd1, hb1, k1⟩ := R1.out.cell (bL_get (toldL_get r S hlt))
            obtain ⟨d2, hd2, hb2, k2⟩ := R2.out.cell (bL_get (toldL_get r S' hlt))
            subst hd1
            subst hd2
            have q1 : (0 : Int) ≤ (k : Int) := by omega
            have q2 : (k : Int) < ((r + 2 : Nat) : Int) := by omega
            by_cases hx : (k : Int) - 1 = x
            · subst hx
              go_wp2_with fail
              go_quiet (fail)
              go_wp2
              go_roundw
              case rel => exact ⟨k + 1, by omega, by go_num, _, rfl⟩
              case measure => simp [intOf]; omega
            · rw [← HS.out, turn_other drop r S x _ hx] at k2
              have hxb : ((k : Int) - 1 != x) = true := by simpa using hx
              have hwk : IntKind.i64.wrap ((k : Int) - 1) = (k : Int) - 1 := IntWalk.i64_in _ (by omega)
              go_wp2_with fail
              go_quiet (fail)
              go_wp2
              go_roundw
              case rel => exact ⟨k + 1, by omega, by go_num, _, rfl⟩
              case measure => simp [intOf]; omega
          · have hkn : k = r + 2 := by omega
            subst hkn
            have HT := Mm.hid (tr_told r S')
            go_wp2_with fail
            refine (count_any a g r S' _ (S4.out.below HB4.out)).mono ?_
            rintro e w' ⟨rfl, rfl⟩
            go_wp2_with fail
            refine (trues_any A2 (r + 2) c2 _ _ (R2.out.below HB4.out) (toldL_len r S' _) (by omega)).mono ?_
            rintro e w' ⟨rfl, rfl⟩
            rw [HT.out]
            go_wp2
            go_ret
            exact ⟨rfl, B4.out.trans (HB4.out.mono B4.out.size)⟩
end Go.Proofs.Ytdfdicmbfgkekaa

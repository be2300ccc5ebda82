/- Walk: the law SchedCounter. -/
import Derived.Test.YtecppnkfnppmoaaSys
import Derived.Test.YtecppnkfnppmoaaFair
import Derived.Deep.CutRange
import Derived.Deep.RegionHeld3
namespace Go.Proofs.Ytecppnkfnppmoaa
open Go.RowKit Go.Mm
theorem newctr_s {base : Nat} {w0 w : World} {L : List Rec} (h : Sys base w0 w L) (n : Int) : Calls Try.prog 17 #[.int .i64 n] w fun e w' => ∃ g, e = .returned (.pointer (some ⟨g, 0, none⟩)) ∧ Hid (Sys base w0 w' (L ++ [⟨72, g, fun v => #[.int .i64 (mx1 n), v], .slice none 0 0, []⟩])) := by
  refine (newctr_any n w).mono ?_
  rintro e w' ⟨rfl, rfl⟩
  exact ⟨_, rfl, h.snoc 72 (fun v => #[.int .i64 (mx1 n), v])⟩
theorem newmach_s {base : Nat} {w0 w : World} {L : List Rec} (h : Sys base w0 w L) (n : Int) : Calls Try.prog 18 #[.int .i64 n] w fun e w' => ∃ g, e = .returned (.pointer (some ⟨g, 0, none⟩)) ∧ Hid (Sys base w0 w' (L ++ [⟨35, g, fun v => #[.int .i64 (mx1 n), .bool false, v], .slice none 0 0, []⟩])) := by
  refine (newmach_any n w).mono ?_
  rintro e w' ⟨rfl, rfl⟩
  exact ⟨_, rfl, h.snoc 35 (fun v => #[.int .i64 (mx1 n), .bool false, v])⟩
def rC (g : Nat) (last : Int) (v : Value) (ts : List Int) : Rec := ⟨72, g, fun v => #[.int .i64 last, v], v, ts⟩
def rM (g : Nat) (last : Int) (v : Value) (ts : List Int) : Rec := ⟨35, g, fun v => #[.int .i64 last, .bool false, v], v, ts⟩
/-- two counters, two machines -/
structure CI (base : Nat) (w0 w : World) (ga gb gx gy : Nat) (la lb : Int) (va vb vx vy : Value) (ta tb : List Int) (k : Nat) : Prop where mk ::
  sys : Sys base w0 w [rC ga la va ta, rC gb lb vb tb, rM gx la vx ta, rM gy lb vy tb]
  a : (ta.length : Int) ≤ la
  b : (tb.length : Int) ≤ lb
  ak : ta.length ≤ k
  bk : tb.length ≤ k
/-- what is chosen of the two pairs -/
def CI2 (base : Nat) (w0 w : World) (ga gb gx gy : Nat) (la lb : Int) (k : Nat) : Prop := ∃ va vb vx vy ta tb, CI base w0 w ga gb gx gy la lb va vb vx vy ta tb k
def Sel (base : Nat) (w0 w : World) (ga gb gx gy : Nat) (la lb : Int) (k gc gz : Nat) : Prop :=
  ∃ (L : List Rec) (p : Nat) (lc : Int) (vc vz : Value) (tc : List Int), Sys base w0 w L ∧ L[p]? = some (rC gc lc vc tc) ∧ L[p + 2]? = some (rM gz lc vz tc) ∧ (tc.length : Int) ≤ lc ∧ 1 ≤ lc ∧ tc.length ≤ k ∧ ∀ (x : Int) (vz' vc' : Value) (w6 : World), Sys base w0 w6 ((L.set (p + 2) (rM gz lc vz' (stp lc tc x))).set p (rC gc lc vc' (stp lc tc x))) → CI2 base w0 w6 ga gb gx gy la lb (k + 1)
theorem sel_a {base : Nat} {w0 w : World} {ga gb gx gy : Nat} {la lb : Int} {va vb vx vy : Value} {ta tb : List Int} {k : Nat} (h : CI base w0 w ga gb gx gy la lb va vb vx vy ta tb k) (pa : 1 ≤ la) : Sel base w0 w ga gb gx gy la lb k ga gx :=
  ⟨_, 0, la, va, vx, ta, h.sys, rfl, rfl, h.a, pa, h.ak, fun x vz' vc' w6 hs => ⟨vc', vb, vz', vy, stp la ta x, tb, hs, (stp_le (now := x) h.a).1, h.b, by have := (stp_le (now := x) h.a).2; have := h.ak; omega, by have := h.bk; omega⟩⟩
theorem sel_b {base : Nat} {w0 w : World} {ga gb gx gy : Nat} {la lb : Int} {va vb vx vy : Value} {ta tb : List Int} {k : Nat} (h : CI base w0 w ga gb gx gy la lb va vb vx vy ta tb k) (pb : 1 ≤ lb) : Sel base w0 w ga gb gx gy la lb k gb gy :=
  ⟨_, 1, lb, vb, vy, tb, h.sys, rfl, rfl, h.b, pb, h.bk, fun x vz' vc' w6 hs => ⟨va, vc', vx, vz', ta, stp lb tb x, hs, h.a, (stp_le (now := x) h.b).1, by have := h.ak; omega, by have := (stp_le (now := x) h.b).2; have := h.bk; omega⟩⟩
set_option maxRecDepth 100000 in
set_option maxHeartbeats 8000000 in
theorem law_counter0 (n m : Int) (A : Option Addr) (len c : Nat) (xs : List Int) (w : World) (R : Rd w A len 1 (iL xs)) (L : xs.length = len) (hlen : len * 8 ≤ 140737488351232) :
    Calls Try.prog 4 #[.int .i64 n, .int .i64 m, .slice A len c] w fun e w' => e = .returned (.bool true) ∧ Below w.heap.size w w' := by
  have R := Mm.hid R
  have L := Mm.hid L
  have pa := Mm.hid (mx1_pos n)
  have pb := Mm.hid (mx1_pos m)
  go_enter Try.func4, Try.ntmps4
  go_wp2_with fail
  refine (newctr_s (Sys.nil w) n).mono ?_
  rintro e w1 ⟨ga, rfl, S1⟩
  go_wp2_with fail
  refine (newctr_s S1.out m).mono ?_
  rintro e w2 ⟨gb, rfl, S2⟩
  go_wp2_with fail
  refine (newmach_s S2.out n).mono ?_
  rintro e w3 ⟨gx, rfl, S3⟩
  go_wp2_with fail
  refine (newmach_s S3.out m).mono ?_
  rintro e w4 ⟨gy, rfl, S4⟩
  have I0 : Hid (CI w.heap.size w w4 ga gb gx gy (mx1 n) (mx1 m) (.slice none 0 0) (.slice none 0 0) (.slice none 0 0) (.slice none 0 0) [] [] 0) := Mm.hid ⟨S4.out, by have := pa.out; simp; omega, by have := pb.out; simp; omega, Nat.le_refl _, Nat.le_refl _⟩
  clear S1 S2 S3 S4
  generalize mx1 n = la at *
  generalize mx1 m = lb at *
  go_wp2_with fail
  go_loopw [11] (fun i wr => ∃ k : Nat, k ≤ len ∧ i = .int .i64 (k : Nat) ∧ Hid (CI2 w.heap.size w wr ga gb gx gy la lb k)) (fun i _ => len - (intOf i).toNat)
  case atStart => exact ⟨0, Nat.zero_le _, rfl, _, _, _, _, _, _, I0.out⟩
  case round =>
    obtain ⟨k, hk, rfl, HK⟩ := hrel
    clear I0
    by_cases hlt : k < len
    · obtain ⟨va, vb, vx, vy, ta, tb, I⟩ := HK.out
      obtain ⟨x, hx⟩ : ∃ x, xs[k]? = some x := ⟨_, List.getElem?_eq_getElem (by rw [L.out]; exact hlt)⟩
      obtain ⟨ad, hA, had, hcell⟩ := R.out.cell (iL_get hx)
      subst hA
      have ck : wr.cell? (ad.add k) = some (.int .i64 x) := (Fr.of_below I.sys.bel).cell hcell (fun h => h)
      have z0 : (0 : Int) ≤ (k : Int) := by omega
      have z1 : (k : Int) < (len : Int) := by omega
      have hlow := I.sys.low
      have I := Mm.hid I
      have HC := Mm.hid hcell
      clear HK hx hcell
      go_upto_if 40 with (fail)
      go_cut [12, 13] from 40 to 42 (fun c z wc => ∃ gc gz, c = .pointer (some ⟨gc, 0, none⟩) ∧ z = .pointer (some ⟨gz, 0, none⟩) ∧ wr = wc ∧ Hid (Sel w.heap.size w wr ga gb gx gy la lb k gc gz))
      case first =>
        by_cases hp : k % 2 = 1
        · have hz : ((k : Int) % 2 == 1) = true := by rw [beq_iff_eq]; omega
          go_wp2
          go_meet
          exact ⟨_, _, rfl, rfl, rfl, Mm.hid (sel_b I.out pb.out)⟩
        · have hz : ((k : Int) % 2 == 1) = false := by rw [beq_eq_false_iff_ne]; omega
          go_wp2
          go_meet
          exact ⟨_, _, rfl, rfl, rfl, Mm.hid (sel_a I.out pa.out)⟩
      case rest =>
        obtain ⟨gc, gz, rfl, rfl, hw, HS⟩ := hcut
        subst hw
        obtain ⟨L4, p, lc, vc, vz, tc, s4, g1, g2, l1, l2, l3, HN⟩ := HS.out
        have hn : (tc.length + 1) * 8 ≤ 140737488355328 := by omega
        have HN := Mm.hid HN
        have S4 := Mm.hid s4
        have G1 := Mm.hid g1
        have G2 := Mm.hid g2
        have l1 := Mm.hid l1
        have l2 := Mm.hid l2
        clear I HS s4 g1 g2 l3
        go_wp2_with fail
        refine (mach_step w.heap.size gz lc x vz tc _ (S4.out.ob _ _ G2.out) hlow l2.out l1.out hn).mono ?_
        intro e w5 hs5
        obtain ⟨rfl, vz', S5⟩ := S4.out.step G2.out hs5
        obtain ⟨bb, hbb⟩ : ∃ bb, ans lc tc = bb := ⟨_, rfl⟩
        rw [hbb]
        have HB := Mm.hid hbb
        have c5 : w5.cell? (ad.add k) = some (.int .i64 x) := (Fr.of_below S5.bel).cell HC.out (fun h => h)
        have G3 := Mm.hid (show (L4.set (p + 2) (rM gz lc vz' (stp lc tc x)))[p]? = some (rC gc lc vc tc) from by rw [List.getElem?_set_ne (by omega)]; exact G1.out)
        have S5 := Mm.hid S5
        clear hs5 ck hbb
        go_wp2_with fail
        refine (ctr_step w.heap.size gc lc x vc tc _ (S5.out.ob _ _ G3.out) S5.out.low l1.out hn).mono ?_
        intro e w6 hs6
        obtain ⟨rfl, vc', S6⟩ := S5.out.step G3.out hs6
        rw [HB.out]
        have I6 := Mm.hid (HN.out x vz' vc' w6 S6)
        clear hs6 S6 S5 HB c5 hn HN S4 G1 G2 G3 l1 l2 HC R
        by_cases hq : (k : Int) = (len : Int) / 2
        · have hq' : ((k : Int) == (len : Int) / 2) = true := by simpa using hq
          clear hq
          go_upto_region 17 with (fail)
          go_cut [15] from 62 to 88 (fun t wc => t = .bool true ∧ Hid (CI2 w.heap.size w wc ga gb gx gy la lb (k + 1)))
          case first =>
            obtain ⟨va, vb, vx, vy, ta, tb, I7⟩ := I6.out
            have hla := I7.ak
            have hlb := I7.bk
            have I7 := Mm.hid I7
            obtain ⟨Ax, cx, hvx, _⟩ := own_slice (I7.out.sys.ob 2 _ rfl).own
            obtain ⟨Ay, cy, hvy, _⟩ := own_slice (I7.out.sys.ob 3 _ rfl).own
            change vx = .slice Ax ta.length cx at hvx
            change vy = .slice Ay tb.length cy at hvy
            have T := TS.begin I7.out.sys
            have q1 := T.cell 2 2 _ rfl rfl
            have q2 := T.cell 3 2 _ rfl rfl
            change w6.cell? ⟨gx, 2, none⟩ = some vx at q1
            change w6.cell? ⟨gy, 2, none⟩ = some vy at q2
            have n1 := World.new_ne w6 ⟨gx, 2, none⟩ q1
            have n2 := World.new_ne w6 ⟨gy, 2, none⟩ q2
            have HM : Hid ((#[vx, vy, vx, vx] : Array Value).size = 4) := Mm.hid rfl
            have HR0 : Hid ([rC ga la va ta, rC gb lb vb tb, rM gx la vx ta, rM gy lb vy tb][0]? = some ⟨72, ga, fun v => #[.int .i64 la, v], va, ta⟩) := Mm.hid rfl
            have HR1 : Hid ([rC ga la va ta, rC gb lb vb tb, rM gx la vx ta, rM gy lb vy tb][1]? = some ⟨72, gb, fun v => #[.int .i64 lb, v], vb, tb⟩) := Mm.hid rfl
            have HR2 : Hid ([rC ga la va ta, rC gb lb vb tb, rM gx la vx ta, rM gy lb vy tb][2]? = some ⟨35, gx, fun v => #[.int .i64 la, .bool false, v], vx, ta⟩) := Mm.hid rfl
            have HZ : Hid (∀ zs ∈ [ta, tb, ta, ta], zs.length ≤ 17592186044404) := Mm.hid (by
              intro zs h
              simp only [List.mem_cons, List.not_mem_nil, or_false] at h
              rcases h with rfl | rfl | rfl | rfl <;> omega)
            have HW : Hid (∀ (i : Nat) (v : Value) (zs : List Int), (#[vx, vy, vx, vx] : Array Value).toList[i]? = some v → [ta, tb, ta, ta][i]? = some zs → ∃ (j : Nat) (r : Rec), [rC ga la va ta, rC gb lb vb tb, rM gx la vx ta, rM gy lb vy tb][j]? = some r ∧ v = r.v ∧ zs = r.ts) := Mm.hid (by
              intro i v zs h1 h2
              rcases i with _ | _ | _ | _ | i <;> simp at h1 h2
              · exact ⟨2, _, rfl, h1.symm, h2.symm⟩
              · exact ⟨3, _, rfl, h1.symm, h2.symm⟩
              · exact ⟨2, _, rfl, h1.symm, h2.symm⟩
              · exact ⟨2, _, rfl, h1.symm, h2.symm⟩)
            have hna : ta.length * 8 ≤ 140737488355328 := by omega
            have hnb : tb.length * 8 ≤ 140737488355328 := by omega
            have A6 := Mm.hid (And.intro I7.out.a (And.intro I7.out.b (And.intro I7.out.ak I7.out.bk)))
            clear I6 I7 hla hlb hq'
            subst hvx hvy
            focus
              go_region_held3 (fun w' => w'.cell? ⟨gx, 2, none⟩ = some (.slice Ax ta.length cx) ∧ w'.cell? ⟨gy, 2, none⟩ = some (.slice Ay tb.length cy)) (go_keep)
                (first | (go_at_call 21; (first | with_reducible refine (TS.times T 0 ga la va ta HR0.out hna).mono ?_ | with_reducible refine (TS.times T 1 gb lb vb tb HR1.out hnb).mono ?_ | with_reducible refine (TS.times T.drew 0 ga la va ta HR0.out hna).mono ?_ | with_reducible refine (TS.times T.drew 1 gb lb vb tb HR1.out hnb).mono ?_ | with_reducible refine (TS.times (T.laid _) 0 ga la va ta HR0.out hna).mono ?_ | with_reducible refine (TS.times (T.laid _) 1 gb lb vb tb HR1.out hnb).mono ?_ | with_reducible refine (TS.times (T.drew.laid _) 0 ga la va ta HR0.out hna).mono ?_ | with_reducible refine (TS.times (T.drew.laid _) 1 gb lb vb tb HR1.out hnb).mono ?_ | with_reducible refine (TS.times (T.laid _).drew 0 ga la va ta HR0.out hna).mono ?_ | with_reducible refine (TS.times (T.laid _).drew 1 gb lb vb tb HR1.out hnb).mono ?_); rintro e w' ⟨A9, m9, c9, rfl, T⟩; have q1 := T.cell 2 2 _ rfl rfl; have q2 := T.cell 3 2 _ rfl rfl; have n1 := World.new_ne w' ⟨gx, 2, none⟩ q1; have n2 := World.new_ne w' ⟨gy, 2, none⟩ q2; dsimp only [rM, rC] at q1 q2) | (go_at_call 15; (first | with_reducible refine (TS.apart4 (T.laid _) _ _ #[.slice Ax ta.length cx, .slice Ay tb.length cy, .slice Ax ta.length cx, .slice Ax ta.length cx] List.mem_cons_self (List.mem_cons_of_mem _ List.mem_cons_self) HM.out HZ.out HW.out).mono ?_ | with_reducible refine (TS.apart4 (T.laid2 _ _) _ _ #[.slice Ax ta.length cx, .slice Ay tb.length cy, .slice Ax ta.length cx, .slice Ax ta.length cx] List.mem_cons_self (List.mem_cons_of_mem _ List.mem_cons_self) HM.out HZ.out HW.out).mono ?_ | with_reducible refine (TS.apart4 (T.laid2 _ _) _ _ #[.slice Ax ta.length cx, .slice Ay tb.length cy, .slice Ax ta.length cx, .slice Ax ta.length cx] (List.mem_cons_of_mem _ List.mem_cons_self) List.mem_cons_self HM.out HZ.out HW.out).mono ?_ | with_reducible refine (TS.apart4 (T.drew.laid _) _ _ #[.slice Ax ta.length cx, .slice Ay tb.length cy, .slice Ax ta.length cx, .slice Ax ta.length cx] List.mem_cons_self (List.mem_cons_of_mem _ List.mem_cons_self) HM.out HZ.out HW.out).mono ?_ | with_reducible refine (TS.apart4 (T.drew.laid2 _ _) _ _ #[.slice Ax ta.length cx, .slice Ay tb.length cy, .slice Ax ta.length cx, .slice Ax ta.length cx] List.mem_cons_self (List.mem_cons_of_mem _ List.mem_cons_self) HM.out HZ.out HW.out).mono ?_ | with_reducible refine (TS.apart4 (T.drew.laid2 _ _) _ _ #[.slice Ax ta.length cx, .slice Ay tb.length cy, .slice Ax ta.length cx, .slice Ax ta.length cx] (List.mem_cons_of_mem _ List.mem_cons_self) List.mem_cons_self HM.out HZ.out HW.out).mono ?_); rintro e w' ⟨rfl, SF⟩; have q1 := ((SF.ob 2 _ rfl).blk).cell 2; have q2 := ((SF.ob 3 _ rfl).blk).cell 2; dsimp [rM, rC] at q1 q2))
              all_goals (go_wp2_with fail)
              all_goals (go_meet; exact ⟨rfl, Mm.hid ⟨_, _, _, _, _, _, SF, A6.out.1, A6.out.2.1, A6.out.2.2.1, A6.out.2.2.2⟩⟩)
          case rest =>
            obtain ⟨rfl, I7⟩ := hcut
            go_wp2
            go_roundw
            case rel => exact ⟨k + 1, by omega, by go_num, I7.out⟩
            case measure => simp [intOf] <;> omega
        · have hq' : ((k : Int) == (len : Int) / 2) = false := by simpa using hq
          clear hq
          go_wp2
          go_roundw
          case rel => exact ⟨k + 1, by omega, by go_num, I6.out⟩
          case measure => simp [intOf] <;> omega
    · have hkn : k = len := by omega
      subst hkn
      obtain ⟨va, vb, vx, vy, ta, tb, I⟩ := HK.out
      have I := Mm.hid I
      have hla := I.out.ak
      have hlb := I.out.bk
      obtain ⟨Ax, cx, hvx, _⟩ := own_slice (I.out.sys.ob 2 _ rfl).own
      obtain ⟨Ay, cy, hvy, _⟩ := own_slice (I.out.sys.ob 3 _ rfl).own
      change vx = .slice Ax ta.length cx at hvx
      change vy = .slice Ay tb.length cy at hvy
      have T := TS.begin I.out.sys
      have q1 := T.cell 2 2 _ rfl rfl
      have q2 := T.cell 3 2 _ rfl rfl
      change wr.cell? ⟨gx, 2, none⟩ = some vx at q1
      change wr.cell? ⟨gy, 2, none⟩ = some vy at q2
      have n1 := World.new_ne wr ⟨gx, 2, none⟩ q1
      have n2 := World.new_ne wr ⟨gy, 2, none⟩ q2
      have HM : Hid ((#[vx, vy, vy, vx, vx, vy] : Array Value).size = 6) := Mm.hid rfl
      have HR0 : Hid ([rC ga la va ta, rC gb lb vb tb, rM gx la vx ta, rM gy lb vy tb][0]? = some ⟨72, ga, fun v => #[.int .i64 la, v], va, ta⟩) := Mm.hid rfl
      have HR1 : Hid ([rC ga la va ta, rC gb lb vb tb, rM gx la vx ta, rM gy lb vy tb][1]? = some ⟨72, gb, fun v => #[.int .i64 lb, v], vb, tb⟩) := Mm.hid rfl
      have HR2 : Hid ([rC ga la va ta, rC gb lb vb tb, rM gx la vx ta, rM gy lb vy tb][2]? = some ⟨35, gx, fun v => #[.int .i64 la, .bool false, v], vx, ta⟩) := Mm.hid rfl
      have HZ : Hid (∀ zs ∈ [ta, tb, tb, ta, ta, tb], zs.length ≤ 17592186044404) := Mm.hid (by
        intro zs h
        simp only [List.mem_cons, List.not_mem_nil, or_false] at h
        rcases h with rfl | rfl | rfl | rfl | rfl | rfl <;> omega)
      have HW : Hid (∀ (i : Nat) (v : Value) (zs : List Int), (#[vx, vy, vy, vx, vx, vy] : Array Value).toList[i]? = some v → [ta, tb, tb, ta, ta, tb][i]? = some zs → ∃ (j : Nat) (r : Rec), [rC ga la va ta, rC gb lb vb tb, rM gx la vx ta, rM gy lb vy tb][j]? = some r ∧ v = r.v ∧ zs = r.ts) := Mm.hid (by
        intro i v zs h1 h2
        rcases i with _ | _ | _ | _ | _ | _ | i <;> simp at h1 h2
        · exact ⟨2, _, rfl, h1.symm, h2.symm⟩
        · exact ⟨3, _, rfl, h1.symm, h2.symm⟩
        · exact ⟨3, _, rfl, h1.symm, h2.symm⟩
        · exact ⟨2, _, rfl, h1.symm, h2.symm⟩
        · exact ⟨2, _, rfl, h1.symm, h2.symm⟩
        · exact ⟨3, _, rfl, h1.symm, h2.symm⟩)
      have hna : ta.length * 8 ≤ 140737488355328 := by omega
      have hnb : tb.length * 8 ≤ 140737488355328 := by omega
      have A6 := Mm.hid (And.intro I.out.a (And.intro I.out.b (And.intro I.out.ak I.out.bk)))
      have HL : Hid (ta.length ≤ 4611686018427387904) := Mm.hid (by omega)
      clear I hla hlb R HK
      subst hvx hvy
      go_upto_region 20 with (fail)
      focus
        go_region_held3 (fun w' => w'.cell? ⟨gx, 2, none⟩ = some (.slice Ax ta.length cx) ∧ w'.cell? ⟨gy, 2, none⟩ = some (.slice Ay tb.length cy)) (go_keep)
          (first | (go_at_call 21; (first | with_reducible refine (TS.times T 0 ga la va ta HR0.out hna).mono ?_ | with_reducible refine (TS.times T 1 gb lb vb tb HR1.out hnb).mono ?_ | with_reducible refine (TS.times T.drew 0 ga la va ta HR0.out hna).mono ?_ | with_reducible refine (TS.times T.drew 1 gb lb vb tb HR1.out hnb).mono ?_ | with_reducible refine (TS.times (T.laid _) 0 ga la va ta HR0.out hna).mono ?_ | with_reducible refine (TS.times (T.laid _) 1 gb lb vb tb HR1.out hnb).mono ?_ | with_reducible refine (TS.times (T.drew.laid _) 0 ga la va ta HR0.out hna).mono ?_ | with_reducible refine (TS.times (T.drew.laid _) 1 gb lb vb tb HR1.out hnb).mono ?_ | with_reducible refine (TS.times (T.laid _).drew 0 ga la va ta HR0.out hna).mono ?_ | with_reducible refine (TS.times (T.laid _).drew 1 gb lb vb tb HR1.out hnb).mono ?_); rintro e w' ⟨A9, m9, c9, rfl, T⟩; have q1 := T.cell 2 2 _ rfl rfl; have q2 := T.cell 3 2 _ rfl rfl; have n1 := World.new_ne w' ⟨gx, 2, none⟩ q1; have n2 := World.new_ne w' ⟨gy, 2, none⟩ q2; dsimp only [rM, rC] at q1 q2) | (go_at_call 15; (first | with_reducible refine (TS.apart6 (T.laid _) _ _ #[.slice Ax ta.length cx, .slice Ay tb.length cy, .slice Ay tb.length cy, .slice Ax ta.length cx, .slice Ax ta.length cx, .slice Ay tb.length cy] List.mem_cons_self (List.mem_cons_of_mem _ List.mem_cons_self) HM.out HZ.out HW.out).mono ?_ | with_reducible refine (TS.apart6 (T.laid2 _ _) _ _ #[.slice Ax ta.length cx, .slice Ay tb.length cy, .slice Ay tb.length cy, .slice Ax ta.length cx, .slice Ax ta.length cx, .slice Ay tb.length cy] List.mem_cons_self (List.mem_cons_of_mem _ List.mem_cons_self) HM.out HZ.out HW.out).mono ?_ | with_reducible refine (TS.apart6 (T.laid2 _ _) _ _ #[.slice Ax ta.length cx, .slice Ay tb.length cy, .slice Ay tb.length cy, .slice Ax ta.length cx, .slice Ax ta.length cx, .slice Ay tb.length cy] (List.mem_cons_of_mem _ List.mem_cons_self) List.mem_cons_self HM.out HZ.out HW.out).mono ?_ | with_reducible refine (TS.apart6 (T.drew.laid _) _ _ #[.slice Ax ta.length cx, .slice Ay tb.length cy, .slice Ay tb.length cy, .slice Ax ta.length cx, .slice Ax ta.length cx, .slice Ay tb.length cy] List.mem_cons_self (List.mem_cons_of_mem _ List.mem_cons_self) HM.out HZ.out HW.out).mono ?_ | with_reducible refine (TS.apart6 (T.drew.laid2 _ _) _ _ #[.slice Ax ta.length cx, .slice Ay tb.length cy, .slice Ay tb.length cy, .slice Ax ta.length cx, .slice Ax ta.length cx, .slice Ay tb.length cy] List.mem_cons_self (List.mem_cons_of_mem _ List.mem_cons_self) HM.out HZ.out HW.out).mono ?_ | with_reducible refine (TS.apart6 (T.drew.laid2 _ _) _ _ #[.slice Ax ta.length cx, .slice Ay tb.length cy, .slice Ay tb.length cy, .slice Ax ta.length cx, .slice Ax ta.length cx, .slice Ay tb.length cy] (List.mem_cons_of_mem _ List.mem_cons_self) List.mem_cons_self HM.out HZ.out HW.out).mono ?_); rintro e w' ⟨rfl, SF⟩; have q1 := ((SF.ob 2 _ rfl).blk).cell 2; have q2 := ((SF.ob 3 _ rfl).blk).cell 2; dsimp [rM, rC] at q1 q2; have T := TS.begin SF; have n1 := World.new_ne w' ⟨gx, 2, none⟩ q1; have n2 := World.new_ne w' ⟨gy, 2, none⟩ q2) | (go_at_call 16; (first | with_reducible refine (TS.same T 2 _ HR2.out rfl rfl HL.out).mono ?_ | with_reducible refine (TS.same T.drew 2 _ HR2.out rfl rfl HL.out).mono ?_); rintro e w' ⟨rfl, SE⟩; have q1 := ((SE.ob 2 _ rfl).blk).cell 2; have q2 := ((SE.ob 3 _ rfl).blk).cell 2; dsimp [rM, rC] at q1 q2))
        all_goals go_wp2
        all_goals go_ret
        all_goals exact ⟨rfl, SE.bel⟩
theorem law_counter (n m : Int) (A : Option Addr) (len c : Nat) (xs : List Int) (w : World) (_ : (Lit.int .i64 n).wf = true) (_ : (Lit.int .i64 m).wf = true) (s : Sl w 1 8 fI (fun x => (Lit.int .i64 x).wf = true) A len c xs) :
    Calls Try.prog 4 #[.int .i64 n, .int .i64 m, .slice A len c] w fun e w' => e = .returned (.bool true) ∧ Below w.heap.size w w' :=
  law_counter0 n m A len c xs w (by have := s.rd; rw [show xs.flatMap fI = iL xs from iL_flat xs] at this; exact this) s.len s.room
end Go.Proofs.Ytecppnkfnppmoaa

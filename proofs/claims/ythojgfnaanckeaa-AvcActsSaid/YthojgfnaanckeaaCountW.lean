/- Walks: first, Ratio in short; the law AvcCounts. -/
import Derived.Test.YthojgfnaanckeaaCountN
import Derived.Deep.RegionHeld3
import Derived.Deep.CutRange
namespace Go.Proofs.Ythojgfnaanckeaa
open Go.RowKit Go.Mm
def FirstEnds (xs : List Ac) (k : Nat) (x : Ac) (w : World) (e : Ending) (w' : World) : Prop := e = .returned (.bool (firstB xs k x)) ∧ Below w.heap.size w w'
theorem firstB_step {xs : List Ac} {x y : Ac} {j : Nat} (hy : xs[j]? = some y) : firstB xs (j + 1) x = (firstB xs j x && !isPut y x.s x.o x.a) := by
  unfold firstB
  rw [take_snoc hy, List.all_append]
  simp
theorem firstB_zero (xs : List Ac) (x : Ac) : firstB xs 0 x = true := rfl
theorem firstB_no {xs : List Ac} {x y : Ac} {j k : Nat} (hy : xs[j]? = some y) (hjk : j < k) (h : isPut y x.s x.o x.a = true) : firstB xs k x = false := by
  unfold firstB
  rw [List.all_eq_false]
  exact ⟨y, List.mem_of_getElem? (i := j) (by rw [List.getElem?_take, if_pos hjk]; exact hy), by simp [h]⟩
theorem two_new (w : World) (y x : Array Value) (t : TypeId) : Blk ((w.alloc (.cells y t)).alloc (.cells x t)).drew w.heap.size t y ∧ Blk ((w.alloc (.cells y t)).alloc (.cells x t)).drew (w.heap.size + 1) t x ∧ Below w.heap.size w ((w.alloc (.cells y t)).alloc (.cells x t)).drew := by
  have h1 := (Blk.new w y t).keep (Below.heap_alloc (w.alloc (.cells y t)) (.cells x t) _ (by simp))
  have h2 := Blk.new (w.alloc (.cells y t)) x t
  rw [show (w.alloc (.cells y t)).heap.size = w.heap.size + 1 by simp] at h2
  exact ⟨h1, h2, (((Below.refl w.heap.size w).alloc (Nat.le_refl _) _).alloc (by simp) _).drew⟩
set_option maxHeartbeats 1000000 in
theorem first_any (A : Option Addr) (n c : Nat) (xs : List Ac) (x : Ac) (k : Nat) (w : World) (h : RdA w A n xs) (hn : n ≤ 9223372036854775807) (hk : xs[k]? = some x) :
    Calls Try.prog 21 #[.slice A n c, .int .i64 (k : Nat)] w (FirstEnds xs k x w) := by
  have R := Mm.hid h
  have hkn : k < n := by rw [← h.1]; exact (List.getElem?_eq_some_iff.1 hk).1
  have K := Mm.hid hk
  clear h hk
  obtain ⟨xd, xt, x1, x2, x3, xl⟩ := x
  go_enter Try.func21, Try.ntmps21
  go_wp2_with fail
  go_loopw [5] (fun i wr => ∃ j : Nat, j ≤ k ∧ i = .int .i64 (j : Nat) ∧ Hid (firstB xs j ⟨xd, xt, x1, x2, x3, xl⟩ = true) ∧ Hid (Below w.heap.size w wr)) (fun i _ => k - (intOf i).toNat)
  case atStart => exact ⟨0, Nat.zero_le _, rfl, rfl, Below.refl _ _⟩
  case round =>
    obtain ⟨j, hj, rfl, HF, HB⟩ := hrel
    by_cases hlt : j < k
    · obtain ⟨ad, rfl, hl, hc⟩ := (R.out.below HB.out).2 (by omega)
      obtain ⟨y, hy⟩ : ∃ y, xs[j]? = some y := ⟨_, List.getElem?_eq_getElem (by have := R.out.1; omega)⟩
      obtain ⟨f0, f1, f2, f3, f4, f5⟩ := hc k _ K.out
      obtain ⟨e0, e1, e2, e3, e4, e5⟩ := hc j y hy
      simp only at f0 f1 f2 f3 f4 f5 e0 e1 e2 e3 e4 e5
      have kn : (k : Int) < n := by omega
      have jn : (j : Int) < n := by omega
      clear hc hl
      obtain ⟨yd, yt, y1, y2, y3, yl⟩ := y
      have YP := Mm.hid (firstB_step (x := ⟨xd, xt, x1, x2, x3, xl⟩) hy)
      have YN := Mm.hid (fun h => firstB_no (x := ⟨xd, xt, x1, x2, x3, xl⟩) hy hlt h)
      simp only at e0 e1 e2 e3 e4 e5
      clear hy
      go_wp2_with fail
      go_cut [6, 7] from 13 to 44 (fun s6 s7 wc => ∃ g g' : Nat, s6 = .pointer (some ⟨g, 0, none⟩) ∧ s7 = .pointer (some ⟨g', 0, none⟩) ∧ Hid (Blk wc g 45 #[.int .i64 yd, .int .i64 yt, .int .i64 y1, .int .i64 y2, .int .i64 y3, .bool yl]) ∧ Hid (Blk wc g' 45 #[.int .i64 xd, .int .i64 xt, .int .i64 x1, .int .i64 x2, .int .i64 x3, .bool xl]) ∧ Hid (Below wr.heap.size wr wc))
      case first =>
        go_region_held3 (fun w' => w'.cell? (ad.add (k * 6)) = some (.int .i64 xd) ∧ w'.cell? ⟨(ad.add (k * 6)).block, (ad.add (k * 6)).off + 1, none⟩ = some (.int .i64 xt) ∧ w'.cell? ⟨(ad.add (k * 6)).block, (ad.add (k * 6)).off + 2, none⟩ = some (.int .i64 x1) ∧ w'.cell? ⟨(ad.add (k * 6)).block, (ad.add (k * 6)).off + 3, none⟩ = some (.int .i64 x2) ∧ w'.cell? ⟨(ad.add (k * 6)).block, (ad.add (k * 6)).off + 4, none⟩ = some (.int .i64 x3) ∧ w'.cell? ⟨(ad.add (k * 6)).block, (ad.add (k * 6)).off + 5, none⟩ = some (.bool xl) ∧ w'.cell? (ad.add (j * 6)) = some (.int .i64 yd) ∧ w'.cell? ⟨(ad.add (j * 6)).block, (ad.add (j * 6)).off + 1, none⟩ = some (.int .i64 yt) ∧ w'.cell? ⟨(ad.add (j * 6)).block, (ad.add (j * 6)).off + 2, none⟩ = some (.int .i64 y1) ∧ w'.cell? ⟨(ad.add (j * 6)).block, (ad.add (j * 6)).off + 3, none⟩ = some (.int .i64 y2) ∧ w'.cell? ⟨(ad.add (j * 6)).block, (ad.add (j * 6)).off + 4, none⟩ = some (.int .i64 y3) ∧ w'.cell? ⟨(ad.add (j * 6)).block, (ad.add (j * 6)).off + 5, none⟩ = some (.bool yl)) (go_keep) (fail)
        all_goals go_wp2_with fail
        all_goals go_meet
        · have T := two_new wr #[.int .i64 yd, .int .i64 yt, .int .i64 y1, .int .i64 y2, .int .i64 y3, .bool yl] #[.int .i64 xd, .int .i64 xt, .int .i64 x1, .int .i64 x2, .int .i64 x3, .bool xl] 45
          exact ⟨_, _, rfl, rfl, T.1, T.2.1, T.2.2⟩
        · have T := two_new wr #[.int .i64 xd, .int .i64 xt, .int .i64 x1, .int .i64 x2, .int .i64 x3, .bool xl] #[.int .i64 yd, .int .i64 yt, .int .i64 y1, .int .i64 y2, .int .i64 y3, .bool yl] 45
          exact ⟨_, _, rfl, rfl, T.2.1, T.1, T.2.2⟩
      case rest =>
        obtain ⟨g, g', rfl, rfl, GY, GX, BC⟩ := hcut
        have BW := Mm.hid (HB.out.trans (BC.out.mono HB.out.size))
        have c0 : wc.cell? ⟨g, 0, none⟩ = some (.int .i64 yd) := GY.out.cell 0
        have c2 : wc.cell? ⟨g, 2, none⟩ = some (.int .i64 y1) := GY.out.cell 2
        have c3 : wc.cell? ⟨g, 3, none⟩ = some (.int .i64 y2) := GY.out.cell 3
        have c4 : wc.cell? ⟨g, 4, none⟩ = some (.int .i64 y3) := GY.out.cell 4
        have d2 : wc.cell? ⟨g', 2, none⟩ = some (.int .i64 x1) := GX.out.cell 2
        have d3 : wc.cell? ⟨g', 3, none⟩ = some (.int .i64 x2) := GX.out.cell 3
        have d4 : wc.cell? ⟨g', 4, none⟩ = some (.int .i64 x3) := GX.out.cell 4
        clear e0 e1 e2 e3 e4 e5 f0 f1 f2 f3 f4 f5
        have key : ((yd == 2) = false ∨ ((yd == 2) = true ∧ (y1 == x1) = false) ∨ ((yd == 2) = true ∧ (y1 == x1) = true ∧ (y2 == x2) = false) ∨ ((yd == 2) = true ∧ (y1 == x1) = true ∧ (y2 == x2) = true ∧ (y3 == x3) = false)) ∨ ((yd == 2) = true ∧ (y1 == x1) = true ∧ (y2 == x2) = true ∧ (y3 == x3) = true) := by
          cases (yd == 2) <;> cases (y1 == x1) <;> cases (y2 == x2) <;> cases (y3 == x3) <;> simp
        rcases key with key | ⟨h1, h2, h3, h4⟩
        · have hp : isPut ⟨yd, yt, y1, y2, y3, yl⟩ x1 x2 x3 = false := by
            show (yd == 2 && (y1 == x1 && (y2 == x2 && y3 == x3))) = false
            rcases key with h1 | ⟨h1, h2⟩ | ⟨h1, h2, h3⟩ | ⟨h1, h2, h3, h4⟩ <;> simp only [*] <;> simp
          have FN : Hid (firstB xs (j + 1) ⟨xd, xt, x1, x2, x3, xl⟩ = true) := by unfold Hid; rw [YP.out, HF.out, hp]; rfl
          clear hp
          rcases key with h1 | ⟨h1, h2⟩ | ⟨h1, h2, h3⟩ | ⟨h1, h2, h3, h4⟩
          all_goals
            go_wp2
            go_roundw
            case rel => exact ⟨j + 1, by omega, by go_num, FN.out, BW.out⟩
            case measure => simp [intOf] <;> omega
        · have hp : Hid (firstB xs k ⟨xd, xt, x1, x2, x3, xl⟩ = false) := YN.out (by show (yd == 2 && (y1 == x1 && (y2 == x2 && y3 == x3))) = true; rw [h1, h2, h3, h4]; rfl)
          go_wp2
          go_ret
          exact ⟨by rw [hp.out]; rfl, BW.out⟩
    · obtain rfl : j = k := by omega
      go_wp2
      go_ret
      exact ⟨by rw [HF.out]; rfl, HB.out⟩
/-- Ratio, as the law looks at it -/
def RatioEnds (asked hits : Nat) (w : World) (e : Ending) (w' : World) : Prop :=
  ∃ r, e = .returned (.float .f64 r) ∧ Hid (Below w.heap.size w w') ∧ (FloatKind.f64.format.order r 0 == some .lt) = false ∧ (FloatKind.f64.format.order r 4607182418800017408 == some .gt) = false ∧
    (FloatKind.f64.format.order r 0 == some .eq) = decide (hits = 0) ∧ (FloatKind.f64.format.order r 4607182418800017408 == some .eq) = decide (hits = asked ∧ 0 < asked)
theorem one_isF : IsF Ieee.double 4607182418800017408 ((1 : Int) * ((2 ^ (kp - 0) : Nat) : Int)) := by
  have h : Dy 4607182418800017408 1 0 := Dy.ofInt 1 (by decide)
  exact h.2
theorem ord_some {r y : Nat} {o : Ordering} (h : Ieee.double.order r y = some o) (p : Ordering) : (FloatKind.f64.format.order r y == some p) = (o == p) := by
  show (Ieee.double.order r y == some p) = (o == p)
  rw [h]; cases o <;> cases p <;> rfl
theorem quo_of (h a : Nat) (hle : h ≤ a) (h0 : 0 < a) (ha : a ≤ 17592186044416) : ∃ r, floatBits .quo .f64 (floatOfInt .f64 ((h : Nat) : Int)) (floatOfInt .f64 ((a : Nat) : Int)) = some r ∧
    (FloatKind.f64.format.order r 0 == some .lt) = false ∧ (FloatKind.f64.format.order r 4607182418800017408 == some .gt) = false ∧
    (FloatKind.f64.format.order r 0 == some .eq) = decide (h = 0) ∧ (FloatKind.f64.format.order r 4607182418800017408 == some .eq) = decide (h = a ∧ 0 < a) := by
  have z0 := Dy.zero.2
  have o1 := one_isF
  have kpos := Nat.two_pow_pos kp
  rw [Nat.sub_zero] at z0 o1
  rcases Nat.eq_zero_or_pos h with rfl | hp
  · obtain ⟨r, e, hr⟩ := Dy.div (k := 0) (l := ((a : Nat) : Int)) (m := 0) (Dy.ofInt 0 (by decide)) (Dy.ofInt ((a : Nat) : Int) (by rw [Int.natAbs_natCast]; omega)) (by omega) (Nat.le_refl 0) (by rw [Int.zero_mul]) (by decide)
    have hr := hr.2
    rw [Nat.sub_zero, Int.zero_mul] at hr
    rw [Int.zero_mul] at z0
    have c1 := order_isF Ieee.double hr z0
    have c2 := order_isF Ieee.double hr o1
    have e1 : compare (0 : Int) 0 = .eq := rfl
    have e2 : compare (0 : Int) (1 * ((2 ^ kp : Nat) : Int)) = .lt := by
      have : (0 : Int) < 1 * ((2 ^ kp : Nat) : Int) := by omega
      simp only [compare, compareOfLessAndEq, this, if_true]
    rw [e1] at c1
    rw [e2] at c2
    refine ⟨r, e, ?_⟩
    rw [ord_some c1, ord_some c1, ord_some c2, ord_some c2]
    have : ¬ (0 = a ∧ 0 < a) := by omega
    simp [this]
  · rcases Nat.lt_or_ge h a with hlt | hge
    · obtain ⟨r, V, e, hr, h1, h2⟩ := frac hp hlt ha
      rw [Int.zero_mul] at z0
      have c1 := order_isF Ieee.double hr z0
      have c2 := order_isF Ieee.double hr o1
      have e1 : compare ((V : Nat) : Int) 0 = .gt := by
        have h3 : ¬ ((V : Nat) : Int) < 0 := by omega
        have h4 : ¬ ((V : Nat) : Int) = 0 := by omega
        simp only [compare, compareOfLessAndEq, h3, h4, if_false]
      have e2 : compare ((V : Nat) : Int) (1 * ((2 ^ kp : Nat) : Int)) = .lt := by
        have : ((V : Nat) : Int) < 1 * ((2 ^ kp : Nat) : Int) := by omega
        simp only [compare, compareOfLessAndEq, this, if_true]
      rw [e1] at c1
      rw [e2] at c2
      refine ⟨r, e, ?_⟩
      rw [ord_some c1, ord_some c1, ord_some c2, ord_some c2]
      have h3 : ¬ (h = a ∧ 0 < a) := by omega
      have h4 : ¬ h = 0 := by omega
      simp [h3, h4]
    · obtain rfl : h = a := by omega
      obtain ⟨r, e, hr⟩ := Dy.div (k := 1) (l := ((h : Nat) : Int)) (m := ((h : Nat) : Int)) (Dy.ofInt ((h : Nat) : Int) (by rw [Int.natAbs_natCast]; omega)) (Dy.ofInt ((h : Nat) : Int) (by rw [Int.natAbs_natCast]; omega)) (by omega) (Nat.le_refl 0) (by rw [Int.one_mul]) (by decide)
      have hr := hr.2
      rw [Nat.sub_zero] at hr
      rw [Int.zero_mul] at z0
      have c1 := order_isF Ieee.double hr z0
      have c2 := order_isF Ieee.double hr o1
      have e1 : compare (1 * ((2 ^ kp : Nat) : Int)) 0 = .gt := by
        have h3 : ¬ (1 * ((2 ^ kp : Nat) : Int)) < 0 := by omega
        have h4 : ¬ (1 * ((2 ^ kp : Nat) : Int)) = 0 := by omega
        simp only [compare, compareOfLessAndEq, h3, h4, if_false]
      have e2 : compare (1 * ((2 ^ kp : Nat) : Int)) (1 * ((2 ^ kp : Nat) : Int)) = .eq := by
        simp [compare, compareOfLessAndEq]
      rw [e1] at c1
      rw [e2] at c2
      refine ⟨r, e, ?_⟩
      rw [ord_some c1, ord_some c1, ord_some c2, ord_some c2]
      have h3 : (h = h ∧ 0 < h) := ⟨rfl, hp⟩
      have h4 : ¬ h = 0 := by omega
      simp [h3, h4]
theorem ratio_any {b n asked hits : Nat} {S : St} (w : World) (h : CacheB w b n S) (hc : CI asked hits S) (ha : asked ≤ 17592186044416) : Calls Try.prog 13 #[.pointer (some ⟨b + 1, 0, none⟩)] w (RatioEnds asked hits w) := by
  have e1 := hc.hits
  have e2 := hc.asked
  have e3 := hc.misses
  rcases Nat.eq_zero_or_pos asked with rfl | hp
  · refine (ratio_none w h (by omega) (by omega)).mono ?_
    rintro e w' ⟨rfl, hb⟩
    obtain rfl : hits = 0 := by omega
    exact ⟨0, rfl, hb, by decide, by decide, by decide, by decide⟩
  · obtain ⟨r, q, q1, q2, q3, q4⟩ := quo_of hits asked (by omega) hp ha
    refine (ratio_some w r h (by omega) e3 (by omega) (by omega) (by rw [e2, e1]; exact q)).mono ?_
    rintro e w' ⟨rfl, hb⟩
    exact ⟨r, rfl, hb, q1, q2, q3, q4⟩
set_option maxRecDepth 100000 in
set_option maxHeartbeats 8000000 in
theorem law_counts (s n : Int) (A : Option Addr) (N c : Nat) (xs : List Ac) (w : World) (_ : (Lit.int .i64 s).wf = true) (_ : (Lit.int .i64 n).wf = true) (h : Sl w 6 48 fA gA A N c xs) :
    Calls Try.prog 7 #[.int .i64 s, .int .i64 n, .slice A N c] w fun e w' => e = .returned (.bool true) ∧ Below w.heap.size w w' := by
  have hN : N ≤ 2932031007403 := by have := h.room; omega
  have hcap : N ≤ c := h.cap
  have R := Mm.hid (rdA_of h.len h.rd)
  have LX := Mm.hid h.len
  clear h
  go_enter Try.func7, Try.ntmps7
  go_wp2_with fail
  refine (alive_true _).mono ?_
  rintro e w1 ⟨rfl, hb⟩
  have B1 := Mm.hid hb
  clear hb
  go_wp2_with fail
  refine (which_nat s 256 _ (by decide) (by decide)).mono ?_
  rintro e w2 ⟨len, z1, z2, rfl, rfl⟩
  go_wp2_with fail
  refine (which_nat n 8 _ (by decide) (by decide)).mono ?_
  rintro e w2 ⟨m, z3, z4, rfl, rfl⟩
  go_wp2_with fail
  refine (new_good len m _ z1 z2 z3 z4).mono ?_
  rintro e w2 ⟨rfl, hc, hb⟩
  have hle := B1.out.size
  have C2 := Mm.hid hc
  have B2 := Mm.hid (B1.out.trans (hb.mono hle))
  clear hc hb
  generalize w1.heap.size = b at *
  clear B1
  go_wp2_with fail
  go_loopw [12, 13, 14] (fun h q i wr => ∃ (k hits asked : Nat) (S : St), k ≤ N ∧ hits ≤ asked ∧ asked ≤ k ∧ h = .int .i64 (hits : Nat) ∧ q = .int .i64 (asked : Nat) ∧ i = .int .i64 (k : Nat) ∧ Hid (CacheB wr b m S ∧ S.ok m ∧ S.small k ∧ TI (xs.take k) S ∧ CI asked hits S ∧ S.rows.length = len) ∧ Hid (Below w.heap.size w wr)) (fun _ _ i _ => N - (intOf i).toNat)
  case atStart => exact ⟨0, 0, 0, St.new len m, Nat.zero_le _, Nat.le_refl _, Nat.le_refl _, rfl, rfl, rfl, ⟨C2.out, new_ok z1 z2 z3 z4, new_small _ _, ⟨new_uniq _ _, fun _ _ _ _ _ hi => absurd hi new_in, fun y hy => by simp at hy⟩, CI.new _ _, by simp [St.new]⟩, B2⟩
  case round =>
    obtain ⟨k, hits, asked, S, hk, hha, hak, rfl, rfl, rfl, HC, HB⟩ := hrel
    clear C2 B2
    by_cases hlt : k < N
    · obtain ⟨ad, rfl, hl, hc⟩ := (R.out.below HB.out).2 (by omega)
      obtain ⟨x, hx⟩ : ∃ x, xs[k]? = some x := ⟨_, List.getElem?_eq_getElem (by have := R.out.1; omega)⟩
      have e := hc k x hx
      have TS := Mm.hid (take_snoc hx)
      obtain ⟨xd, xt, x1, x2, x3, xl⟩ := x
      obtain ⟨e0, e1, e2, e3, e4, e5⟩ := e
      simp only at e0 e1 e2 e3 e4 e5
      have hsz : w.heap.size ≤ wr.heap.size := HB.out.size
      have top := HC.out.1.top HC.out.2.1.1
      clear hc hx hl
      have BA := Mm.hid ((Below.refl wr.heap.size wr).alloc (Nat.le_refl _) (.cells #[.int .i64 xd, .int .i64 xt, .int .i64 x1, .int .i64 x2, .int .i64 x3, .bool xl] 45))
      have CA := Mm.hid (HC.out.1.below BA.out)
      have XA := Mm.hid (Blk.new wr #[.int .i64 xd, .int .i64 xt, .int .i64 x1, .int .i64 x2, .int .i64 x3, .bool xl] 45)
      by_cases hd2 : (xd == 2) = true
      · have hd1 : (xd == 1) = false := by simp at hd2 ⊢; omega
        have hd2' : Hid (xd = 2) := Mm.hid (by simpa using hd2)
        go_wp2_with fail
        refine (put_any b m S xt x1 x2 x3 xl k _ (by exact CA.out) HC.out.2.1 HC.out.2.2.1 (by omega)).mono ?_
        rintro e w5 ⟨rfl, hc, hf⟩
        have hXA : w5.heap[wr.heap.size]? = _ := hf.block wr.heap.size (by simp) (fun h => by have := h.2; omega)
        have X5 := Mm.hid (XA.out.keep hXA)
        have v0 : w5.cell? ⟨wr.heap.size, 0, none⟩ = some (.int .i64 xd) := X5.out.cell 0
        have C5 := Mm.hid hc
        have B5 := Mm.hid (HB.out.trans ((BA.out.mono hsz).trans (hf.below (B := w.heap.size) (fun g hg => Nat.le_trans hle hg.1) (by simp; omega))))
        have T5 : Hid (TI (xs.take (k + 1)) (putS m S xt x1 x2 x3 xl)) := by unfold Hid; rw [TS.out]; exact HC.out.2.2.2.1.put (x := ⟨xd, xt, x1, x2, x3, xl⟩) HC.out.2.1 hd2'.out
        have N5 : Hid ((putS m S xt x1 x2 x3 xl).ok m ∧ (putS m S xt x1 x2 x3 xl).small (k + 1)) := ⟨putS_ok _ _ _ _ _ HC.out.2.1, putS_small _ _ _ _ _ HC.out.2.2.1⟩
        have I5 := Mm.hid (HC.out.2.2.2.2.1.put HC.out.2.1 xt x1 x2 x3 xl)
        have L5 : Hid ((putS m S xt x1 x2 x3 xl).rows.length = len) := by unfold Hid; rw [putS_len]; exact HC.out.2.2.2.2.2
        clear hc hf hXA
        go_wp2
        go_roundw
        case rel => exact ⟨k + 1, hits, asked, _, by omega, hha, by omega, rfl, rfl, by go_num, ⟨C5.out, N5.out.1, N5.out.2, T5.out, I5.out, L5.out⟩, B5⟩
        case measure => simp [intOf] <;> omega
      · have hd2' : (xd == 2) = false := by simpa using hd2
        have hd2'' : Hid (xd ≠ 2) := Mm.hid (by simpa using hd2)
        clear hd2
        by_cases hd1 : (xd == 1) = true
        · have T5 : Hid (TI (xs.take (k + 1)) (getS S xt x1 x2 x3).2) := by unfold Hid; rw [TS.out]; exact HC.out.2.2.2.1.get (x := ⟨xd, xt, x1, x2, x3, xl⟩) hd2''.out
          have N5 : Hid ((getS S xt x1 x2 x3).2.ok m ∧ (getS S xt x1 x2 x3).2.small (k + 1)) := ⟨getS_ok _ _ _ _ HC.out.2.1, getS_small _ _ _ _ HC.out.2.2.1⟩
          have I5 := Mm.hid (HC.out.2.2.2.2.1.get HC.out.2.1 xt x1 x2 x3)
          have L5 : Hid ((getS S xt x1 x2 x3).2.rows.length = len) := by unfold Hid; rw [getS_len]; exact HC.out.2.2.2.2.2
          go_wp2_with fail
          refine (get_any b m S xt x1 x2 x3 k _ (by exact CA.out) HC.out.2.1 HC.out.2.2.1 (by omega)).mono ?_
          rintro e w5 ⟨rfl, hc, hf⟩
          have C5 := Mm.hid hc
          have B5 := Mm.hid (HB.out.trans ((BA.out.mono hsz).trans (hf.below (B := w.heap.size) (fun g hg => Nat.le_trans hle hg.1) (by simp; omega))))
          clear hc hf e0 e1 e2 e3 e4 e5
          generalize (getS S xt x1 x2 x3).1.1 = gx at *
          generalize (getS S xt x1 x2 x3).1.2 = gy at *
          generalize (getS S xt x1 x2 x3).2 = S5 at *
          cases gy
          · go_wp2
            go_roundw
            case rel => exact ⟨k + 1, hits, asked + 1, _, by omega, by omega, by omega, rfl, by go_num, by go_num, ⟨C5.out, N5.out.1, N5.out.2, T5.out, I5.out, L5.out⟩, B5⟩
            case measure => simp [intOf] <;> omega
          · go_wp2
            go_roundw
            case rel => exact ⟨k + 1, hits + 1, asked + 1, _, by omega, by omega, by omega, by go_num, by go_num, by go_num, ⟨C5.out, N5.out.1, N5.out.2, T5.out, I5.out, L5.out⟩, B5⟩
            case measure => simp [intOf] <;> omega
        · have hd1' : (xd == 1) = false := by simpa using hd1
          clear hd1
          have T5 : Hid (TI (xs.take (k + 1)) S) := by unfold Hid; rw [TS.out]; exact HC.out.2.2.2.1.none (x := ⟨xd, xt, x1, x2, x3, xl⟩) hd2''.out
          have B5 := Mm.hid (HB.out.trans (BA.out.mono hsz))
          go_wp2
          go_roundw
          case rel => exact ⟨k + 1, hits, asked, S, by omega, hha, by omega, rfl, rfl, by go_num, ⟨CA.out, HC.out.2.1, HC.out.2.2.1.more (Nat.le_succ _), T5.out, HC.out.2.2.2.2⟩, B5⟩
          case measure => simp [intOf] <;> omega
    · obtain rfl : k = N := by omega
      have hTI : TI xs S := by have := HC.out.2.2.2.1; rwa [← LX.out, List.take_length] at this
      have TX := Mm.hid hTI
      have CX := Mm.hid HC.out.2.2.2.2.1
      have TA := Mm.hid (told_all hTI HC.out.2.2.2.2.1)
      rw [LX.out] at TA
      have i1 := CX.out.hits
      have i2 := CX.out.asked
      have i3 := CX.out.held
      have i4 := CX.out.ev
      have i5 : cntS S.rows ≤ len * m := by
        have := cntS_le m S.rows fun r hr => by
          obtain ⟨i, hi⟩ := List.getElem?_of_mem hr
          exact (HC.out.2.1.2.2.2.2 i r hi).1
        rwa [HC.out.2.2.2.2.2] at this
      have i6 : len * m ≤ 2048 := by have := Nat.mul_le_mul z2 z4; omega
      obtain ⟨hd, hhd⟩ : ∃ d, cntS S.rows = d := ⟨_, rfl⟩
      have HD := Mm.hid hhd
      rw [hhd] at i3 i5
      clear hhd hTI hlt
      go_wp2_with fail
      refine (stats_any _ HC.out.1).mono ?_
      rintro e w5 ⟨rfl, hb⟩
      rw [i1, i3]
      have SB := Mm.hid (Blk.new w5 #[.int .i64 ((hits : Nat) : Int), .int .i64 S.misses, .int .i64 S.ev, .int .i64 ((hd : Nat) : Int)] 30)
      have BA := Mm.hid (hb.alloc hb.size (.cells #[.int .i64 ((hits : Nat) : Int), .int .i64 S.misses, .int .i64 S.ev, .int .i64 ((hd : Nat) : Int)] 30))
      have hs5 : wr.heap.size ≤ w5.heap.size := hb.size
      have top := HC.out.1.top HC.out.2.1.1
      rw [HC.out.2.2.2.2.2] at top
      clear hb
      go_wp2_with fail
      refine (ratio_any _ (HC.out.1.below BA.out) CX.out (by omega)).mono ?_
      rintro e w6 ⟨r, rfl, hb, r1, r2, r3, r4⟩
      have S6 := Mm.hid (SB.out.keep (hb.out.block _ (by simp)))
      have B6 := Mm.hid (BA.out.trans (hb.out.mono (by simp; omega)))
      have hs6 : w5.heap.size < w6.heap.size := by have := hb.out.size; simp at this; omega
      have c0 : w6.cell? ⟨w5.heap.size, 0, none⟩ = some (.int .i64 ((hits : Nat) : Int)) := S6.out.cell 0
      have c1 : w6.cell? ⟨w5.heap.size, 1, none⟩ = some (.int .i64 S.misses) := S6.out.cell 1
      have c2 : w6.cell? ⟨w5.heap.size, 2, none⟩ = some (.int .i64 S.ev) := S6.out.cell 2
      have c3 : w6.cell? ⟨w5.heap.size, 3, none⟩ = some (.int .i64 ((hd : Nat) : Int)) := S6.out.cell 3
      have BW := Mm.hid (HB.out.trans (B6.out.mono HB.out.size))
      have CB := Mm.hid (HC.out.1.below B6.out)
      obtain ⟨mi, hmi⟩ : ∃ mi : Nat, S.misses = (mi : Nat) := ⟨S.misses.toNat, by have := CX.out.misses; omega⟩
      rw [i1, hmi] at i2
      rw [hmi] at c1
      have MI := Mm.hid hmi
      have i7 : ((hd : Nat) : Int) ≤ (len : Int) * (m : Int) := by rw [← Int.natCast_mul]; exact Int.ofNat_le.2 i5
      have i8 : (len : Int) * (m : Int) ≤ 2048 := by rw [← Int.natCast_mul]; exact Int.ofNat_le.2 i6
      have i9 : 0 ≤ (len : Int) * (m : Int) := by rw [← Int.natCast_mul]; exact Int.natCast_nonneg _
      have r5 : (((FloatKind.f64.format.order r 0 == some .eq) = true ∧ (((hits : Nat) : Int) == 0) = true) ∨ ((FloatKind.f64.format.order r 0 == some .eq) = false ∧ (((hits : Nat) : Int) == 0) = false)) := by
        rw [r3]; by_cases h : hits = 0 <;> simp [h]
      have r6 : (asked = hits ∧ mi = 0 ∧ (((FloatKind.f64.format.order r 4607182418800017408 == some .eq) = true ∧ (0 : Int) < ((hits : Nat) : Int)) ∨ ((FloatKind.f64.format.order r 4607182418800017408 == some .eq) = false ∧ ¬ (0 : Int) < ((hits : Nat) : Int)))) ∨ ((((hits : Nat) : Int) == ((asked : Nat) : Int)) = false ∧ (FloatKind.f64.format.order r 4607182418800017408 == some .eq) = false) := by
        rw [r4]
        by_cases h : mi = 0
        · left
          refine ⟨by omega, h, ?_⟩
          obtain rfl : asked = hits := by omega
          by_cases h : asked = 0
          · right; simp [h]
          · left; simp; omega
        · right; constructor
          · simp; omega
          · simp; omega
      have KB := Mm.hid hb.out
      generalize hg : w5.heap.size = g at *
      clear r3 r4 hb KB i1 hmi i5 i6 hg i3
      go_upto_region 22 with (fail)
      go_cut [19, 150] from 98 to 150 (fun v t wc => v = .float .f64 r ∧ t = .bool false ∧ w6 = wc)
      case first =>
        rcases r5 with ⟨r5, r8⟩ | ⟨r5, r8⟩ <;> rcases r6 with ⟨rfl, rfl, ⟨r7, r9⟩ | ⟨r7, r9⟩⟩ | ⟨r6, r7⟩
        · exfalso; simp only [beq_iff_eq] at r8; omega
        · go_wp2
          go_meet
          exact ⟨rfl, by rw [decide_eq_false (Int.not_lt.2 i7), decide_eq_false (Int.not_lt.2 i4)]; simp; try omega, rfl⟩
        · go_wp2
          go_meet
          exact ⟨rfl, by rw [decide_eq_false (Int.not_lt.2 i7), decide_eq_false (Int.not_lt.2 i4)]; simp; try omega, rfl⟩
        · go_wp2
          go_meet
          exact ⟨rfl, by rw [decide_eq_false (Int.not_lt.2 i7), decide_eq_false (Int.not_lt.2 i4)]; simp; try omega, rfl⟩
        · exfalso; simp only [beq_eq_false_iff_ne] at r8; omega
        · go_wp2
          go_meet
          exact ⟨rfl, by rw [decide_eq_false (Int.not_lt.2 i7), decide_eq_false (Int.not_lt.2 i4)]; simp; try omega, rfl⟩
      case rest =>
        obtain ⟨rfl, rfl, rfl⟩ := hcut
        have SG : Hid (Blk w6 g 30 #[.int .i64 ((hits : Nat) : Int), .int .i64 ((mi : Nat) : Int), .int .i64 S.ev, .int .i64 ((hd : Nat) : Int)]) := by have := S6.out; rwa [MI.out] at this
        have tg : b + 2 + len ≤ g := by omega
        clear r5 r6 r1 r2 hs5 i2 i4 i7 i8 i9 c0 c1 c2 c3
        have CB2 := Mm.hid CB.out
        have U0 := Mm.hid TX.out.uniq
        have O0 := Mm.hid HC.out.2.1
        have SM := Mm.hid HC.out.2.2.1
        have LL := Mm.hid HC.out.2.2.2.2.2
        clear CB HC HB
        go_wp2_with fail
        go_loopw [20, 21] (fun t i wr => ∃ (j : Nat) (S' : St), j ≤ k ∧ t = .int .i64 ((((List.range j).filter (tolds xs S)).length : Nat)) ∧ i = .int .i64 (j : Nat) ∧ Hid (CacheB wr b m S' ∧ S'.ok m ∧ S'.small (k + j) ∧ Uniq S' ∧ Alike S S' ∧ S'.rows.length = len) ∧ Hid (Below w.heap.size w wr) ∧ Hid (Blk wr g 30 #[.int .i64 ((hits : Nat) : Int), .int .i64 ((mi : Nat) : Int), .int .i64 S.ev, .int .i64 ((hd : Nat) : Int)])) (fun _ i _ => k - (intOf i).toNat)
        case atStart => exact ⟨0, S, Nat.zero_le _, rfl, rfl, ⟨CB2.out, O0.out, SM.out, U0.out, fun _ _ _ _ _ => Iff.rfl, LL.out⟩, BW.out, SG.out⟩
        case round =>
          obtain ⟨j, S', hj, rfl, rfl, HC, HB, HS⟩ := hrel
          clear CB2
          have tl : ((List.range j).filter (tolds xs S)).length ≤ j := by have := List.length_filter_le (tolds xs S) (List.range j); rwa [List.length_range] at this
          have TS := Mm.hid (tolds_step xs S j)
          by_cases hlt : j < k
          · generalize ((List.range j).filter (tolds xs S)).length = tn at *
            obtain ⟨ad, rfl, hl, hc⟩ := (R.out.below HB.out).2 (by omega)
            obtain ⟨x, hx⟩ : ∃ x, xs[j]? = some x := ⟨_, List.getElem?_eq_getElem (by have := R.out.1; omega)⟩
            have XK := Mm.hid hx
            have e := hc j x hx
            have hmem := List.mem_of_getElem? hx
            have hL : Hid (∃ z : Ac, (lastPut xs x.s x.o x.a).getD Ac.zero = z ∧ (x.do_ = 2 → lastPut xs x.s x.o x.a = some z)) := by
              refine ⟨_, rfl, fun hd => ?_⟩
              obtain ⟨z, hz, _⟩ := lastPut_mem hmem hd
              rw [hz]; rfl
            obtain ⟨xd, xt, x1, x2, x3, xl⟩ := x
            obtain ⟨⟨zd, zt, zs, zo, za, zl⟩, hz1, hz2⟩ := hL.out
            simp only at hz1 hz2
            have HZ1 := Mm.hid hz1
            have HZ2 := Mm.hid hz2
            obtain ⟨e0, e1, e2, e3, e4, e5⟩ := e
            simp only at e0 e1 e2 e3 e4 e5
            have hsz : w.heap.size ≤ wr.heap.size := HB.out.size
            have hgr : g < wr.heap.size := HS.out.lt
            clear hc hx hl hmem hz1 hz2 hL
            have BA := Mm.hid ((Below.refl wr.heap.size wr).alloc (Nat.le_refl _) (.cells #[.int .i64 xd, .int .i64 xt, .int .i64 x1, .int .i64 x2, .int .i64 x3, .bool xl] 45))
            have XA := Mm.hid (Blk.new wr #[.int .i64 xd, .int .i64 xt, .int .i64 x1, .int .i64 x2, .int .i64 x3, .bool xl] 45)
            go_wp2_with fail
            refine (last_any (some ad) k c xs ⟨xd, xt, x1, x2, x3, xl⟩ _ ((R.out.below HB.out).below BA.out) (by omega)).mono ?_
            rintro e w7 ⟨he, hb7⟩
            simp only at he
            rw [HZ1.out] at he
            simp only [aV] at he
            generalize (lastPut xs x1 x2 x3).isSome = zb at he
            subst he
            have X7 := Mm.hid (XA.out.keep (hb7.block _ (by simp)))
            have B7 := Mm.hid (BA.out.trans (hb7.mono (by simp)))
            have ZA := Mm.hid (Blk.new w7 #[.int .i64 zd, .int .i64 zt, .int .i64 zs, .int .i64 zo, .int .i64 za, .bool zl] 45)
            have BB := Mm.hid (B7.out.alloc B7.out.size (.cells #[.int .i64 zd, .int .i64 zt, .int .i64 zs, .int .i64 zo, .int .i64 za, .bool zl] 45))
            have h7 : wr.heap.size < w7.heap.size := by have := hb7.size; simp at this; omega
            clear hb7
            have v0 : w7.cell? ⟨wr.heap.size, 0, none⟩ = some (.int .i64 xd) := X7.out.cell 0
            have v2 : w7.cell? ⟨wr.heap.size, 2, none⟩ = some (.int .i64 x1) := X7.out.cell 2
            have v3 : w7.cell? ⟨wr.heap.size, 3, none⟩ = some (.int .i64 x2) := X7.out.cell 3
            have v4 : w7.cell? ⟨wr.heap.size, 4, none⟩ = some (.int .i64 x3) := X7.out.cell 4
            have kc : (j : Int) < (k : Int) := by omega
            by_cases hd2 : (xd == 2) = true
            · have hL := HZ2.out (by simpa using hd2)
              have TJ : Hid (tolds xs S j = (firstB xs j ⟨xd, xt, x1, x2, x3, xl⟩ && (getS S zt x1 x2 x3).1.2)) := by
                unfold Hid tolds
                simp only [XK.out, hL, hd2, Bool.true_and]
              have GL := Mm.hid hL
              clear hL
              go_wp2_with fail
              refine (first_any (some ad) k c xs ⟨xd, xt, x1, x2, x3, xl⟩ j _ ((R.out.below HB.out).below BB.out) (by omega) XK.out).mono ?_
              rintro e w8 ⟨rfl, hb8⟩
              have X8 := Mm.hid ((X7.out.keep (Below.heap_alloc w7 (.cells #[.int .i64 zd, .int .i64 zt, .int .i64 zs, .int .i64 zo, .int .i64 za, .bool zl] 45) _ h7)).keep (hb8.block _ (by simp; omega)))
              have Z8 := Mm.hid (ZA.out.keep (hb8.block _ (by simp)))
              have B8 := Mm.hid (BB.out.trans (hb8.mono (by simp; omega)))
              have h8 : w7.heap.size < w8.heap.size := by have := hb8.size; simp at this; omega
              clear hb8 v0 v2 v3 v4 e0 e1 e2 e3 e4 e5
              have v1 : w8.cell? ⟨w7.heap.size, 1, none⟩ = some (.int .i64 zt) := Z8.out.cell 1
              have v2 : w8.cell? ⟨wr.heap.size, 2, none⟩ = some (.int .i64 x1) := X8.out.cell 2
              have v3 : w8.cell? ⟨wr.heap.size, 3, none⟩ = some (.int .i64 x2) := X8.out.cell 3
              have v4 : w8.cell? ⟨wr.heap.size, 4, none⟩ = some (.int .i64 x3) := X8.out.cell 4
              have S8 := Mm.hid (HS.out.keep (B8.out.block _ hgr))
              have W8 := Mm.hid (HB.out.trans (B8.out.mono hsz))
              have C8 := Mm.hid (HC.out.1.below B8.out)
              generalize firstB xs j ⟨xd, xt, x1, x2, x3, xl⟩ = fb at *
              cases fb
              · have T1 : Hid (((List.range (j + 1)).filter (tolds xs S)).length = tn) := by unfold Hid; rw [TS.out, TJ.out]; rfl
                go_wp2
                go_roundw
                case rel => exact ⟨j + 1, S', by omega, by rw [T1.out], by go_num, ⟨C8.out, HC.out.2.1, HC.out.2.2.1.more (by omega), HC.out.2.2.2⟩, W8.out, S8.out⟩
                case measure => simp [intOf] <;> omega
              · have AS := Mm.hid (Alike.same TX.out HC.out.2.2.2.1 HC.out.2.2.2.2.1 GL.out)
                have AG := Mm.hid (Alike.get TX.out HC.out.2.2.2.2.1 GL.out)
                have N9 : Hid ((getS S' zt x1 x2 x3).2.ok m ∧ (getS S' zt x1 x2 x3).2.small (k + j + 1) ∧ Uniq (getS S' zt x1 x2 x3).2 ∧ (getS S' zt x1 x2 x3).2.rows.length = len) := ⟨getS_ok _ _ _ _ HC.out.2.1, getS_small _ _ _ _ HC.out.2.2.1, getS_uniq _ _ _ _ HC.out.2.2.2.1, by rw [getS_len]; exact HC.out.2.2.2.2.2⟩
                have LS := HC.out.2.2.2.2.2
                have hIn : ∀ q, wr.heap.size ≤ q ∨ q = g → ¬ InC b S'.rows.length q := by
                  intro q hq h
                  have := h.2
                  rw [LS] at this
                  omega
                go_wp2_with fail
                refine (get_any b m S' zt x1 x2 x3 (k + j) _ (by exact C8.out) HC.out.2.1 HC.out.2.2.1 (by omega)).mono ?_
                rintro e w9 ⟨rfl, hc9, hf9⟩
                have Z9 := Mm.hid (Z8.out.keep (hf9.block _ h8 (hIn _ (.inl (by omega)))))
                have S9 := Mm.hid (S8.out.keep (hf9.block _ (by omega) (hIn _ (.inr rfl))))
                have C9 := Mm.hid hc9
                have B9 := Mm.hid (W8.out.trans (hf9.below (B := w.heap.size) (fun q hq => Nat.le_trans hle hq.1) (by omega)))
                have v5 : w9.cell? ⟨w7.heap.size, 5, none⟩ = some (.bool zl) := Z9.out.cell 5
                clear hc9 hf9 v1 v2 v3 v4 hIn LS
                have T1 : Hid (((List.range (j + 1)).filter (tolds xs S)).length = tn + (getS S' zt x1 x2 x3).1.2.toNat) := by unfold Hid; rw [TS.out, TJ.out, Bool.true_and, AS.out.1]
                have A1 : Hid ((getS S' zt x1 x2 x3).1.2 = true → (getS S' zt x1 x2 x3).1.1 = zl) := AS.out.2
                clear AS TJ
                generalize (getS S' zt x1 x2 x3).1.1 = gx at *
                generalize (getS S' zt x1 x2 x3).1.2 = gy at *
                generalize (getS S' zt x1 x2 x3).2 = S9' at *
                cases gy
                · go_wp2
                  go_roundw
                  case rel => exact ⟨j + 1, S9', by omega, by rw [T1.out]; rfl, by go_num, ⟨C9.out, N9.out.1, N9.out.2.1.more (by omega), N9.out.2.2.1, AG.out, N9.out.2.2.2⟩, B9.out, S9.out⟩
                  case measure => simp [intOf] <;> omega
                · obtain rfl := A1.out rfl
                  go_wp2
                  go_roundw
                  case rel => exact ⟨j + 1, S9', by omega, by rw [T1.out]; rfl, by go_num, ⟨C9.out, N9.out.1, N9.out.2.1.more (by omega), N9.out.2.2.1, AG.out, N9.out.2.2.2⟩, B9.out, S9.out⟩
                  case measure => simp [intOf] <;> omega
            · have hd2' : (xd == 2) = false := by simpa using hd2
              clear hd2
              have TJ : Hid (tolds xs S j = false) := by
                unfold Hid tolds
                simp only [XK.out, hd2', Bool.false_and]
                split <;> rfl
              have T1 : Hid (((List.range (j + 1)).filter (tolds xs S)).length = tn) := by unfold Hid; rw [TS.out, TJ.out]; rfl
              have S8 := Mm.hid (HS.out.keep (BB.out.block _ hgr))
              have W8 := Mm.hid (HB.out.trans (BB.out.mono hsz))
              have C8 := Mm.hid (HC.out.1.below BB.out)
              go_wp2
              go_roundw
              case rel => exact ⟨j + 1, S', by omega, by rw [T1.out], by go_num, ⟨C8.out, HC.out.2.1, HC.out.2.2.1.more (by omega), HC.out.2.2.2⟩, W8.out, S8.out⟩
              case measure => simp [intOf] <;> omega
          · obtain rfl : j = k := by omega
            have c3 : wr.cell? ⟨g, 3, none⟩ = some (.int .i64 ((hd : Nat) : Int)) := HS.out.cell 3
            rw [TA.out, HD.out]
            go_wp2
            go_ret
            exact ⟨by simp, HB.out⟩
end Go.Proofs.Ythojgfnaanckeaa

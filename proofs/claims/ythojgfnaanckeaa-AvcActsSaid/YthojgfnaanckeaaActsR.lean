/- Walks: the document's cache: of, in, Spot, Stats, Ratio. -/
import Derived.Test.YthojgfnaanckeaaActsN
import Derived.Test.YthojgfnaanckeaaMo
import Derived.Deep.QuietTactic
import Derived.BigQuiet
import Derived.Deep.RegionHeld3
import Derived.Deep.CutRange
namespace Go.Proofs.Ythojgfnaanckeaa
open Go.RowKit Go.Mm
def fD (d : De) : List Value := [.int .i64 (d.set : Nat), .int .i64 (d.place : Nat), .int .i64 d.s, .int .i64 d.o, .int .i64 d.a, .int .i64 d.tag, .bool d.al, .bool d.mkd]
theorem fD_len (d : De) : (fD d).length = 8 := rfl
structure RB (w : World) (B r n : Nat) (R : RS) (v : Value) : Prop where
  box : Blk w (r + 1) 60 #[.int .i64 (R.hands.length : Nat), .int .i64 (n : Nat), .slice (some ⟨r, 0, none⟩) R.hands.length R.hands.length, v, .int .i64 R.hits, .int .i64 R.misses, .int .i64 R.ev]
  hands : Flat w r 3 fH R.hands
  list : w.ownsRow B 79 8 v R.ds.length (R.ds.flatMap fD)
  low : r + 1 < B
theorem RB.keep {w w' : World} {B r n : Nat} {R : RS} {v : Value} (h : RB w B r n R v) {X : Nat → Prop} (hf : Fr X w w') (h1 : ¬ X (r + 1)) (h2 : ¬ X r) (h3 : ∀ b, v.ownBlock = some b → ¬ X b) : RB w' B r n R v :=
  ⟨hf.blk h.box h1, h.hands.keep (hf.block _ h.hands.lt h2), hf.own h.list h3, h.low⟩
theorem RB.below {w w' : World} {B r n : Nat} {R : RS} {v : Value} (h : RB w B r n R v) (hb : Below w.heap.size w w') : RB w' B r n R v := h.keep (Fr.of_below hb) (fun h => h) (fun h => h) (fun _ _ h => h)
theorem eq77 (ps po pa s o a : Int) (r : Bool) (h : (ps == s && (po == o && pa == a)) = r) (W : World) : (Op.equalIn 10000 77 (.agg #[.int .i64 ps, .int .i64 po, .int .i64 pa]) (.agg #[.int .i64 s, .int .i64 o, .int .i64 a])).run Try.prog W = .ok r W := by
  rw [← h]
  obtain ⟨i3, hi3, z3⟩ := Option.map_eq_some_iff.1 info3
  simp only [Prod.mk.injEq] at z3
  rw [show (10000 : Nat) = 9998 + 2 from rfl, run_equalIn_struct W (9998 + 1) 77 _ _ (by kernel_rfl) (by kernel_rfl)]
  have hf : Try.prog.fieldsOf 77 = (match Try.prog.underlying 77 with | some (.struct fs) => fs | _ => #[]) := rfl
  rw [hf, Try.underlying77]
  simp [Op.eqFields, part, run_sizeOf, hi3, run_equalIn_int _ 3 .i64 _ _ _ Try.underlying3]
  by_cases h1 : ps = s <;> by_cases h2 : po = o <;> by_cases h3 : pa = a <;> simp [h1, h2, h3]
/-- the cells of a decision in the list -/
theorem rb_cells {w : World} {B n : Nat} {v : Value} {ds : List De} (h : w.ownsRow B 79 8 v n (ds.flatMap fD)) {k : Nat} {d : De} (hd : ds[k]? = some d) (hn : ds.length = n) :
    ∃ ad c, v = .slice (some ad) n c ∧ v.ownBlock = some ad.block ∧ ad.block < w.heap.size ∧ n ≤ c ∧ w.cell? (ad.add (k * 8)) = some (.int .i64 (d.set : Nat)) ∧
      w.cell? ⟨(ad.add (k * 8)).block, (ad.add (k * 8)).off + 1, none⟩ = some (.int .i64 (d.place : Nat)) ∧
      w.cell? ⟨(ad.add (k * 8)).block, (ad.add (k * 8)).off + 2, none⟩ = some (.int .i64 d.s) ∧
      w.cell? ⟨(ad.add (k * 8)).block, (ad.add (k * 8)).off + 3, none⟩ = some (.int .i64 d.o) ∧
      w.cell? ⟨(ad.add (k * 8)).block, (ad.add (k * 8)).off + 4, none⟩ = some (.int .i64 d.a) ∧
      w.cell? ⟨(ad.add (k * 8)).block, (ad.add (k * 8)).off + 5, none⟩ = some (.int .i64 d.tag) ∧
      w.cell? ⟨(ad.add (k * 8)).block, (ad.add (k * 8)).off + 6, none⟩ = some (.bool d.al) ∧
      w.cell? ⟨(ad.add (k * 8)).block, (ad.add (k * 8)).off + 7, none⟩ = some (.bool d.mkd) := by
  obtain ⟨A, c, rfl, hc, ho, hr⟩ := own_slice h
  have hk := lt_of_get hd
  obtain ⟨ad, rfl, hl, hcell⟩ := hr.2 (by omega)
  have key : ∀ j u, (fD d)[j]? = some u → w.cell? (ad.add (k * 8 + j)) = some u := fun j u hu => hcell _ _ (by
    rw [flatMap_at fD_len hd]
    · exact hu
    · exact (List.getElem?_eq_some_iff.1 hu).1)
  have fld : ∀ j u, 0 < j → (fD d)[j]? = some u → w.cell? ⟨(ad.add (k * 8)).block, (ad.add (k * 8)).off + j, none⟩ = some u := fun j u hj hu => by
    rw [← add_field ad (k * 8) j hj]; exact key j u hu
  exact ⟨ad, c, rfl, ho ad rfl, hl, hc, key 0 _ rfl, fld 1 _ (by decide) rfl, fld 2 _ (by decide) rfl, fld 3 _ (by decide) rfl, fld 4 _ (by decide) rfl, fld 5 _ (by decide) rfl, fld 6 _ (by decide) rfl, fld 7 _ (by decide) rfl⟩
theorem below_dn {B : Nat} {w w' : World} (h : Below B w w') (n : Nat) : Below B w (w'.drewN n) := ⟨h.os, h.tape, h.output, h.size, h.block⟩
def AtEnds (x : Option Nat) (w : World) (e : Ending) (w' : World) : Prop := e = .returned (.int .i64 (ofFind x)) ∧ Below w.heap.size w w'
theorem findIdx_of {α : Type} {p : α → Bool} {l : List α} {k : Nat} {x : α} (h0 : ∀ (j : Nat) (y : α), j < k → l[j]? = some y → p y = false) (hx : l[k]? = some x) (hp : p x = true) : l.findIdx? p = some k := by
  rw [List.findIdx?_eq_some_iff_getElem]
  refine ⟨lt_of_get hx, ?_, fun j hj => ?_⟩
  · rw [List.getElem?_eq_getElem (lt_of_get hx)] at hx
    injection hx with hx
    rw [hx]; exact hp
  · have hl : j < l.length := Nat.lt_trans hj (lt_of_get hx)
    rw [h0 j _ hj (List.getElem?_eq_getElem hl)]; exact Bool.noConfusion
theorem findIdx_none {α : Type} {p : α → Bool} {l : List α} (h0 : ∀ (j : Nat) (y : α), l[j]? = some y → p y = false) : l.findIdx? p = none := by
  rw [List.findIdx?_eq_none_iff]
  intro y hy
  obtain ⟨j, hj⟩ := List.getElem?_of_mem hy
  exact h0 j y hj
set_option maxHeartbeats 1000000 in
theorem of_any (B r n : Nat) (R : RS) (v : Value) (s o a : Int) (w : World) (h : RB w B r n R v) (hn : R.ds.length ≤ 2048) :
    Calls Try.prog 30 #[.pointer (some ⟨r + 1, 0, none⟩), .agg #[.int .i64 s, .int .i64 o, .int .i64 a]] w (AtEnds (ofR R.ds s o a) w) := by
  obtain ⟨A, c, rfl, hc, _, _⟩ := own_slice h.list
  obtain ⟨len, hlen⟩ : ∃ len, R.ds.length = len := ⟨_, rfl⟩
  have H := Mm.hid h
  have LN := Mm.hid hlen
  have T1 := Mm.hid (Blk.new w #[.int .i64 s, .int .i64 o, .int .i64 a] 77)
  have BA := Mm.hid ((Below.refl w.heap.size w).alloc (Nat.le_refl _) (.cells #[.int .i64 s, .int .i64 o, .int .i64 a] 77))
  rw [hlen] at hc hn
  clear h hlen
  go_enter Try.func30, Try.ntmps30
  go_wp2_with fail
  go_loopw [5] (fun i wr => ∃ k : Nat, k ≤ len ∧ i = .int .i64 (k : Nat) ∧ Hid (∀ (j : Nat) (d : De), j < k → R.ds[j]? = some d → d.key s o a = false) ∧ Hid (Below (w.heap.size + 1) (w.alloc (.cells #[.int .i64 s, .int .i64 o, .int .i64 a] 77)) wr)) (fun i _ => len - (intOf i).toNat)
  case atStart => exact ⟨0, Nat.zero_le _, rfl, (fun _ _ h => by omega), ⟨rfl, rfl, rfl, by simp, fun _ _ => rfl⟩⟩
  case round =>
    obtain ⟨k, hk, rfl, HK, HB⟩ := hrel
    have BW := Mm.hid (BA.out.trans (HB.out.mono (by omega)))
    have HW := Mm.hid (H.out.below BW.out)
    have TW := Mm.hid (T1.out.keep (HB.out.block _ (by omega)))
    have c3 : wr.cell? ⟨r + 1, 3, none⟩ = some (.slice A len c) := by have := HW.out.box.cell 3; rwa [LN.out] at this
    have t0 : wr.cell? ⟨w.heap.size, 0, none⟩ = some (.int .i64 s) := TW.out.cell 0
    have t1 : wr.cell? ⟨w.heap.size, 1, none⟩ = some (.int .i64 o) := TW.out.cell 1
    have t2 : wr.cell? ⟨w.heap.size, 2, none⟩ = some (.int .i64 a) := TW.out.cell 2
    by_cases hlt : k < len
    · obtain ⟨d, hd⟩ : ∃ d, R.ds[k]? = some d := ⟨_, List.getElem?_eq_getElem (by rw [LN.out]; exact hlt)⟩
      have hl := HW.out.list
      rw [LN.out] at hl
      obtain ⟨ad, c', hv, _, _, _, e0, e1, e2, e3, e4, e5, e6, e7⟩ := rb_cells hl hd LN.out
      injection hv with hA _ hcc
      subst hA hcc
      have HD := Mm.hid hd
      have kI : (0 : Int) ≤ (k : Int) := by omega
      have kC : (k : Int) < (len : Int) := by omega
      clear hl hd e0 e1 e5 e6 e7
      cases hq : (d.s == s && (d.o == o && d.a == a))
      · have q77 := eq77 d.s d.o d.a s o a false hq
        have hq' : Hid (d.key s o a = false) := hq
        clear hq
        go_wp2_with fail
        go_quiet (fail)
        go_wp2
        go_roundw
        case rel => exact ⟨k + 1, by omega, by go_num, (fun j d' hj hd' => by
          by_cases e : j = k
          · subst e; rw [HD.out] at hd'; cases hd'; exact hq'.out
          · exact HK.out j d' (by omega) hd'), below_dn HB.out _⟩
        case measure => simp [intOf]; omega
      · have q77 := eq77 d.s d.o d.a s o a true hq
        have hq' : Hid (ofR R.ds s o a = some k) := Mm.hid (findIdx_of HK.out HD.out hq)
        clear hq
        go_wp2_with fail
        go_quiet (fail)
        go_wp2
        go_ret
        exact ⟨by rw [hq'.out]; rfl, below_dn BW.out _⟩
    · have hk' : k = len := by omega
      have hq' : Hid (ofR R.ds s o a = none) := Mm.hid (findIdx_none fun j d hd => HK.out j d (by have := lt_of_get hd; have := LN.out; omega) hd)
      subst hk'
      go_wp2
      go_ret
      exact ⟨by rw [hq'.out]; rfl, BW.out⟩
set_option maxHeartbeats 1000000 in
theorem in_any (B r n : Nat) (R : RS) (v : Value) (i q : Nat) (w : World) (h : RB w B r n R v) (hn : R.ds.length ≤ 2048) :
    Calls Try.prog 32 #[.pointer (some ⟨r + 1, 0, none⟩), .int .i64 (i : Nat), .int .i64 (q : Nat)] w (AtEnds (inR R.ds i q) w) := by
  obtain ⟨A, c, rfl, hc, _, _⟩ := own_slice h.list
  obtain ⟨len, hlen⟩ : ∃ len, R.ds.length = len := ⟨_, rfl⟩
  have LN := Mm.hid hlen
  have c3 : w.cell? ⟨r + 1, 3, none⟩ = some (.slice A len c) := by have := h.box.cell 3; rwa [hlen] at this
  have HL := Mm.hid h.list
  rw [hlen] at hc hn HL
  clear h hlen
  go_enter Try.func32, Try.ntmps32
  go_wp2_with fail
  go_loopw [7] (fun i' wr => ∃ k : Nat, k ≤ len ∧ i' = .int .i64 (k : Nat) ∧ Hid (∀ (j : Nat) (d : De), j < k → R.ds[j]? = some d → (d.set == i && d.place == q) = false) ∧ w = wr) (fun i' _ => len - (intOf i').toNat)
  case atStart => exact ⟨0, Nat.zero_le _, rfl, (fun _ _ h => by omega), rfl⟩
  case round =>
    obtain ⟨k, hk, rfl, HK, rfl⟩ := hrel
    by_cases hlt : k < len
    · obtain ⟨d, hd⟩ : ∃ d, R.ds[k]? = some d := ⟨_, List.getElem?_eq_getElem (by rw [LN.out]; exact hlt)⟩
      obtain ⟨ad, c', hv, _, _, _, e0, e1, e2, e3, e4, e5, e6, e7⟩ := rb_cells HL.out hd LN.out
      injection hv with hA _ hcc
      subst hA hcc
      have HD := Mm.hid hd
      have kC : (k : Int) < (len : Int) := by omega
      clear hd e2 e3 e4 e5 e6 e7
      have key : ((((d.set : Nat) : Int) == (i : Int)) = true ∧ (((d.place : Nat) : Int) == (q : Int)) = true ∧ (d.set == i && d.place == q) = true) ∨ ((((d.set : Nat) : Int) == (i : Int)) = false ∧ (d.set == i && d.place == q) = false) ∨ ((((d.set : Nat) : Int) == (i : Int)) = true ∧ (((d.place : Nat) : Int) == (q : Int)) = false ∧ (d.set == i && d.place == q) = false) := by
        by_cases h1 : d.set = i <;> by_cases h2 : d.place = q <;> simp [h1, h2] <;> omega
      rcases key with ⟨h1, h2, h3⟩ | ⟨h1, h3⟩ | ⟨h1, h2, h3⟩
      · have hq' : Hid (inR R.ds i q = some k) := Mm.hid (findIdx_of HK.out HD.out h3)
        clear h3
        go_wp2
        go_ret
        exact ⟨by rw [hq'.out]; rfl, Below.refl _ _⟩
      all_goals
        have H3 := Mm.hid h3
        clear h3
        go_wp2
        go_roundw
        case rel => exact ⟨k + 1, by omega, by go_num, (fun j d' hj hd' => by
          by_cases e : j = k
          · subst e; rw [HD.out] at hd'; cases hd'; exact H3.out
          · exact HK.out j d' (by omega) hd'), trivial⟩
        case measure => simp [intOf]; omega
    · have hk' : k = len := by omega
      have hq' : Hid (inR R.ds i q = none) := Mm.hid (findIdx_none fun j d hd => HK.out j d (by have := lt_of_get hd; have := LN.out; omega) hd)
      subst hk'
      go_wp2
      go_ret
      exact ⟨by rw [hq'.out]; rfl, Below.refl _ _⟩
theorem rspot_eq (H len : Int) (h1 : 1 ≤ len) (h2 : len ≤ 256) : (wrap64 (H.tmod len + len)).tmod len = H % len := by
  have e := tmod_emod H len (by omega)
  have q1 := Int.emod_nonneg H (show len ≠ 0 by omega)
  have q2 := Int.emod_lt_of_pos H (show 0 < len by omega)
  by_cases h : H.tmod len < 0
  · rw [if_pos h] at e
    have hw : wrap64 (H.tmod len + len) = H % len := by rw [e]; unfold wrap64; omega
    rw [hw, Int.tmod_eq_emod_of_nonneg q1, Int.emod_eq_of_lt q1 q2]
  · rw [if_neg h] at e
    have hw : wrap64 (H.tmod len + len) = H % len + len := by rw [e]; unfold wrap64; omega
    rw [hw, Int.tmod_eq_emod_of_nonneg (by omega), Int.add_emod_right, Int.emod_eq_of_lt q1 q2]
theorem rspot_any (B r n : Nat) (R : RS) (v : Value) (s o a : Int) (w : World) (h : RB w B r n R v) (hl : 1 ≤ R.hands.length) (hl' : R.hands.length ≤ 256) :
    Calls Try.prog 25 #[.pointer (some ⟨r + 1, 0, none⟩), .int .i64 s, .int .i64 o, .int .i64 a] w fun e w' => e = .returned (.int .i64 (spot R.hands.length s o a)) ∧ Below w.heap.size w w' := by
  have c0 : w.cell? ⟨r + 1, 0, none⟩ = some (.int .i64 (R.hands.length : Nat)) := h.box.cell 0
  clear h
  generalize R.hands.length = len at *
  have hz : ((len : Int) == 0) = false := by simp; omega
  have fin : Hid ((wrap64 ((wrap64 (wrap64 (wrap64 (wrap64 (s * 31) + o) * 31) + a)).tmod (len : Int) + (len : Int))).tmod (len : Int) = ((spot len s o a : Nat) : Int)) := by
    unfold Hid spot
    rw [rspot_eq _ _ (by omega) (by omega), Int.toNat_of_nonneg (Int.emod_nonneg _ (by omega))]
    rfl
  go_enter Try.func25, Try.ntmps25
  go_wp2_with fail
  go_quiet (fail)
  go_wp2
  go_ret
  exact ⟨by rw [← fin.out]; rfl, below_dn (Below.refl _ _) _⟩
set_option maxHeartbeats 1000000 in
theorem rstats_any (B r n : Nat) (R : RS) (v : Value) (w : World) (h : RB w B r n R v) :
    Calls Try.prog 26 #[.pointer (some ⟨r + 1, 0, none⟩)] w fun e w' => e = .returned (.agg #[.int .i64 R.hits, .int .i64 R.misses, .int .i64 R.ev, .int .i64 ((R.ds.length : Nat) : Int)]) ∧ Below w.heap.size w w' := by
  obtain ⟨A, c, rfl, hc, _, _⟩ := own_slice h.list
  have c3 : w.cell? ⟨r + 1, 3, none⟩ = some (.slice A R.ds.length c) := h.box.cell 3
  have c4 : w.cell? ⟨r + 1, 4, none⟩ = some (.int .i64 R.hits) := h.box.cell 4
  have c5 : w.cell? ⟨r + 1, 5, none⟩ = some (.int .i64 R.misses) := h.box.cell 5
  have c6 : w.cell? ⟨r + 1, 6, none⟩ = some (.int .i64 R.ev) := h.box.cell 6
  have hlt := h.box.lt
  clear h
  go_enter Try.func26, Try.ntmps26
  go_wp2_with fail
  go_region_held3 (fun w' => w'.cell? ⟨r + 1, 3, none⟩ = some (.slice A R.ds.length c) ∧ w'.cell? ⟨r + 1, 4, none⟩ = some (.int .i64 R.hits) ∧ w'.cell? ⟨r + 1, 5, none⟩ = some (.int .i64 R.misses) ∧ w'.cell? ⟨r + 1, 6, none⟩ = some (.int .i64 R.ev)) (go_keep) (fail)
  go_wp2
  refine bodyPost_ret (v := .agg #[.int .i64 R.hits, .int .i64 R.misses, .int .i64 R.ev, .int .i64 ((R.ds.length : Nat) : Int)]) (by simp [results, Try.results26, go_sem]) rfl ⟨rfl, ?_⟩
  exact ((Below.refl _ w).alloc (Nat.le_refl _) _).drew
theorem add_words (h m : Nat) (hm : h + m ≠ 0) (hl : h + m ≤ 17592186044416) : floatBits .add .f64 (floatOfInt .f64 ((h : Nat) : Int)) (floatOfInt .f64 ((m : Nat) : Int)) = some (floatOfInt .f64 (((h : Nat) : Int) + ((m : Nat) : Int))) := by
  obtain ⟨r, e, hr⟩ := Dy.add (Dy.ofInt ((h : Nat) : Int) (by rw [Int.natAbs_natCast]; omega)) (Dy.ofInt ((m : Nat) : Int) (by rw [Int.natAbs_natCast]; omega)) (by omega)
  rw [e, Dy.eq hr (Dy.ofInt (((h : Nat) : Int) + ((m : Nat) : Int)) (by omega)) (by omega)]
theorem rratio_some (B r n : Nat) (R : RS) (v : Value) (w : World) (h : RB w B r n R v) (hh m : Nat) (e1 : R.hits = (hh : Nat)) (e2 : R.misses = (m : Nat)) (hm : hh + m ≠ 0) (hl : hh + m ≤ 17592186044416) (q : Nat)
    (hq : floatBits .quo .f64 (floatOfInt .f64 ((hh : Nat) : Int)) (floatOfInt .f64 (((hh : Nat) : Int) + ((m : Nat) : Int))) = some q) :
    Calls Try.prog 27 #[.pointer (some ⟨r + 1, 0, none⟩)] w fun e w' => e = .returned (.float .f64 q) ∧ Below w.heap.size w w' := by
  have c4 : w.cell? ⟨r + 1, 4, none⟩ = some (.int .i64 ((hh : Nat) : Int)) := by rw [← e1]; exact h.box.cell 4
  have c5 : w.cell? ⟨r + 1, 5, none⟩ = some (.int .i64 ((m : Nat) : Int)) := by rw [← e2]; exact h.box.cell 5
  have ha := add_words hh m hm hl
  have a1 : ∀ W : World, fres .add (floatOfInt .f64 ((hh : Nat) : Int)) (floatOfInt .f64 ((m : Nat) : Int)) W = floatOfInt .f64 (((hh : Nat) : Int) + ((m : Nat) : Int)) := fun W => by unfold fres; rw [ha]; rfl
  have a2 : fdn .add (floatOfInt .f64 ((hh : Nat) : Int)) (floatOfInt .f64 ((m : Nat) : Int)) = 0 := by unfold fdn; rw [ha]; rfl
  have q1 : ∀ W : World, fres .quo (floatOfInt .f64 ((hh : Nat) : Int)) (floatOfInt .f64 (((hh : Nat) : Int) + ((m : Nat) : Int))) W = q := fun W => by unfold fres; rw [hq]; rfl
  have q2 : fdn .quo (floatOfInt .f64 ((hh : Nat) : Int)) (floatOfInt .f64 (((hh : Nat) : Int) + ((m : Nat) : Int))) = 0 := by unfold fdn; rw [hq]; rfl
  have key : (((hh : Nat) : Int) == 0) = false ∨ ((((hh : Nat) : Int) == 0) = true ∧ (((m : Nat) : Int) == 0) = false) := by
    by_cases h0 : hh = 0
    · right; simp [h0]; omega
    · left; simp; omega
  clear h ha hq e1 e2
  rcases key with h0 | ⟨h0, h1⟩
  all_goals
    go_enter Try.func27, Try.ntmps27
    go_wp2_with fail
    go_quiet (fail)
    go_wp2_with fail
    go_ret
    exact ⟨rfl, below_dn (Below.refl _ _) _⟩
theorem rratio_none (B r n : Nat) (R : RS) (v : Value) (w : World) (h : RB w B r n R v) (e1 : R.hits = 0) (e2 : R.misses = 0) :
    Calls Try.prog 27 #[.pointer (some ⟨r + 1, 0, none⟩)] w fun e w' => e = .returned (.float .f64 0) ∧ Below w.heap.size w w' := by
  have c4 : w.cell? ⟨r + 1, 4, none⟩ = some (.int .i64 0) := by rw [← e1]; exact h.box.cell 4
  have c5 : w.cell? ⟨r + 1, 5, none⟩ = some (.int .i64 0) := by rw [← e2]; exact h.box.cell 5
  clear h
  go_enter Try.func27, Try.ntmps27
  go_wp2
  go_ret
  exact ⟨rfl, Below.refl _ _⟩
end Go.Proofs.Ythojgfnaanckeaa

/- Walks: a cache and the document's beside it: made, act. -/
import Derived.Test.YthojgfnaanckeaaActsS
import Derived.Test.YthojgfnaanckeaaCountW
namespace Go.Proofs.Ythojgfnaanckeaa
open Go.RowKit Go.Mm
theorem rput_any (B r n : Nat) (S : St) (R : RS) (v : Value) (tag s o a : Int) (al : Bool) (K : Nat) (w : World) (h : RB w B r n R v) (sim : Sim S R) (hu : Uniq S) (hc : Clean S) (ho : S.ok n) (hs : S.small K) (hK : K ≤ 9223372036854775806) (hn : R.ds.length ≤ 2048) (hB : B ≤ w.heap.size) :
    Calls Try.prog 23 #[.pointer (some ⟨r + 1, 0, none⟩), .int .i64 tag, .int .i64 s, .int .i64 o, .int .i64 a, .bool al] w (RPutEnds B r n v (putS n S tag s o a al) w) := by
  cases hj : ofR R.ds s o a with
  | some j => exact rput_again B r n S R v tag s o a al j w h sim hu hc hn hj
  | none => exact rput_new B r n S R v tag s o a al K w h sim hu hc ho hs hK hn hB hj
theorem CacheB.keepI {w w' : World} {b n : Nat} {S : St} (h : CacheB w b n S) (h1 : 1 ≤ S.rows.length) (hk : ∀ k, InC b S.rows.length k → w'.heap[k]? = w.heap[k]?) : CacheB w' b n S :=
  ⟨h.cache.keep (hk _ ⟨by omega, by omega⟩), h.sets.keep (hk _ ⟨by omega, by omega⟩), fun i r hi => ⟨(h.rows i r hi).1, (h.rows i r hi).2.keep (hk _ ⟨by omega, by have := (List.getElem?_eq_some_iff.1 hi).1; omega⟩)⟩⟩
/-- a cache and the document's, in memory -/
structure Duo (w : World) (B b r n : Nat) (S : St) (R : RS) (v : Value) (K : Nat) : Prop where
  c : CacheB w b n S
  rb : RB w B r n R v
  ok : S.ok n
  small : S.small K
  uniq : Uniq S
  ci : ∃ asked hits, CI asked hits S
  sim : Sim S R
  low : b + 2 + S.rows.length ≤ r
/-- its blocks -/
def DX (b r len : Nat) (v : Value) (k : Nat) : Prop := InC b len k ∨ k = r ∨ k = r + 1 ∨ v.ownBlock = some k
theorem Duo.keep {w w' : World} {B b r n : Nat} {S : St} {R : RS} {v : Value} {K : Nat} (h : Duo w B b r n S R v K) {X : Nat → Prop} (hf : Fr X w w') (hX : ∀ k, DX b r S.rows.length v k → ¬ X k) : Duo w' B b r n S R v K :=
  ⟨h.c.keepI h.ok.1 fun g hg => hf.block g (by
      obtain ⟨h1, h2⟩ := hg
      have := h.rb.hands.lt
      have := h.low
      omega) (hX g (.inl hg)), h.rb.keep hf (hX _ (.inr (.inr (.inl rfl)))) (hX _ (.inr (.inl rfl))) (fun g hg => hX g (.inr (.inr (.inr hg)))), h.ok, h.small, h.uniq, h.ci, h.sim, h.low⟩
theorem Duo.below {w w' : World} {B b r n : Nat} {S : St} {R : RS} {v : Value} {K : Nat} (h : Duo w B b r n S R v K) (hb : Below w.heap.size w w') : Duo w' B b r n S R v K := h.keep (Fr.of_below hb) fun _ _ h => h
def ActEnds (B b r n : Nat) (S : St) (v : Value) (K : Nat) (w : World) (e : Ending) (w' : World) : Prop :=
  e = .returned (.bool true) ∧ ∃ S' R' v', Hid (Duo w' B b r n S' R' v' K) ∧ Hid (Fr (DX b r S.rows.length v) w w') ∧ Hid (S'.rows.length = S.rows.length) ∧ Hid (∀ g, v'.ownBlock = some g → v.ownBlock = some g ∨ w.heap.size ≤ g)
theorem quo_self (h a : Nat) (hle : h ≤ a) (h0 : 0 < a) (ha : a ≤ 17592186044416) : ∃ r, floatBits .quo .f64 (floatOfInt .f64 ((h : Nat) : Int)) (floatOfInt .f64 ((a : Nat) : Int)) = some r ∧ (FloatKind.f64.format.order r r == some .eq) = true := by
  obtain ⟨r, e, _⟩ := quo_of h a hle h0 ha
  refine ⟨r, e, ?_⟩
  have hc := (canon_some (floatBits_canon e)).2
  have : FloatKind.f64.format.order r r = some .eq := by
    show Ieee.double.order r r = _
    rw [order_self, hc]; rfl
  rw [this]; rfl
theorem eq30 (d : Nat) (a b c e a' b' c' e' : Int) (W : World) : (Op.equalIn (d + 2) 30 (.agg #[.int .i64 a, .int .i64 b, .int .i64 c, .int .i64 e]) (.agg #[.int .i64 a', .int .i64 b', .int .i64 c', .int .i64 e'])).run Try.prog W = .ok (a == a' && (b == b' && (c == c' && e == e'))) W := by
  obtain ⟨i3, hi3, z3⟩ := Option.map_eq_some_iff.1 info3
  simp only [Prod.mk.injEq] at z3
  rw [run_equalIn_struct W (d + 1) 30 _ _ (by kernel_rfl) (by kernel_rfl)]
  have hf : Try.prog.fieldsOf 30 = (match Try.prog.underlying 30 with | some (.struct fs) => fs | _ => #[]) := rfl
  rw [hf, Try.underlying30]
  simp [Op.eqFields, part, run_sizeOf, hi3, run_equalIn_int _ 3 .i64 _ _ _ Try.underlying3]
  by_cases h0 : a = a' <;> by_cases h1 : b = b' <;> by_cases h2 : c = c' <;> by_cases h3 : e = e' <;> simp [h0, h1, h2, h3]
theorem eq30' (a b c e : Int) (W : World) : (Op.equalIn 10000 30 (.agg #[.int .i64 a, .int .i64 b, .int .i64 c, .int .i64 e]) (.agg #[.int .i64 a, .int .i64 b, .int .i64 c, .int .i64 e])).run Try.prog W = .ok true W := by
  have := eq30 9998 a b c e a b c e W
  rw [this]; simp
/-! ### made -/
def MadeEnds (s n : Int) (w : World) (e : Ending) (w' : World) : Prop :=
  ((s < 1 ∨ 256 < s ∨ n < 1 ∨ 8 < n) ∧ e = .returned (.tuple #[.agg #[.pointer none, .pointer none], .bool true]) ∧ Hid (Below w.heap.size w w')) ∨
  ∃ (s' n' b r : Nat), s = (s' : Nat) ∧ n = (n' : Nat) ∧ e = .returned (.tuple #[.agg #[.pointer (some ⟨b + 1, 0, none⟩), .pointer (some ⟨r + 1, 0, none⟩)], .bool true]) ∧ Hid (Below w.heap.size w w') ∧ w.heap.size ≤ b ∧ r + 1 < w'.heap.size ∧
    Hid (∀ B, w'.heap.size ≤ B → Duo w' B b r n' (St.new s' n') (RS.new s') (.slice none 0 0) 0)
set_option maxHeartbeats 1000000 in
theorem made_any (s n : Int) (w : World) : Calls Try.prog 15 #[.int .i64 s, .int .i64 n] w (MadeEnds s n w) := by
  by_cases h : s < 1 ∨ 256 < s ∨ n < 1 ∨ 8 < n
  · have H := Mm.hid h
    clear h
    have BA := Mm.hid ((Below.refl w.heap.size w).alloc (Nat.le_refl _) (.cells #[.pointer none, .pointer none] 40))
    have b0 : w.heap.size < (w.alloc (.cells #[.pointer none, .pointer none] 40)).heap.size := by simp
    go_enter Try.func15, Try.ntmps15
    go_wp2_with fail
    refine (new_bad s n _ H.out).mono ?_
    rintro e w1 ⟨rfl, rfl⟩
    go_wp2_with fail
    refine (rnew_bad s n _ H.out).mono ?_
    rintro e w1 ⟨rfl, rfl⟩
    have c0 : (w.alloc (.cells #[.pointer none, .pointer none] 40)).cell? ⟨w.heap.size, 0, none⟩ = some (.pointer none) := (Blk.new w #[.pointer none, .pointer none] 40).cell 0
    have c1 : (w.alloc (.cells #[.pointer none, .pointer none] 40)).cell? ⟨w.heap.size, 1, none⟩ = some (.pointer none) := (Blk.new w #[.pointer none, .pointer none] 40).cell 1
    go_wp2_with fail
    refine bodyPost_ret (v := .tuple #[.agg #[.pointer none, .pointer none], .bool true]) (by simp [results, Try.results15, go_sem, c0, c1]) rfl (.inl ⟨H.out, rfl, BA.out⟩)
  · obtain ⟨s', rfl⟩ : ∃ s' : Nat, s = s' := ⟨s.toNat, by omega⟩
    obtain ⟨n', rfl⟩ : ∃ n' : Nat, n = n' := ⟨n.toNat, by omega⟩
    have z1 : 1 ≤ s' := by omega
    have z2 : s' ≤ 256 := by omega
    have z3 : 1 ≤ n' := by omega
    have z4 : n' ≤ 8 := by omega
    clear h
    have BA := Mm.hid ((Below.refl w.heap.size w).alloc (Nat.le_refl _) (.cells #[.pointer none, .pointer none] 40))
    have Z0 := Mm.hid (Blk.new w #[.pointer none, .pointer none] 40)
    go_enter Try.func15, Try.ntmps15
    go_wp2_with fail
    refine (new_good s' n' _ z1 z2 z3 z4).mono ?_
    rintro e w1 ⟨rfl, hc, hb⟩
    have s0 : (w.alloc (.cells #[.pointer none, .pointer none] 40)).heap.size = w.heap.size + 1 := by simp
    have C1 := Mm.hid hc
    have B1 := Mm.hid (BA.out.trans (hb.mono (by rw [s0]; omega)))
    have Z1 := Mm.hid (Z0.out.keep (hb.block _ (by rw [s0]; omega)))
    have top := hc.top (by simpa [St.new] using z1)
    have top : (w.alloc (.cells #[.pointer none, .pointer none] 40)).heap.size + 2 + s' ≤ w1.heap.size := by simpa [St.new] using top
    have lw := hb.size
    clear hc hb
    rw [s0] at C1 top lw
    clear s0
    go_wp2_with fail
    refine (rnew_good s' n' _ z1 z2 z3 z4).mono ?_
    rintro e w2 ⟨rfl, hw⟩
    have B2 : Hid (Below w1.heap.size w1 w2) := by rw [hw]; exact ((Below.refl w1.heap.size w1).alloc (Nat.le_refl _) _).alloc (by simp) _
    have hs2 : w2.heap.size = w1.heap.size + 2 := by rw [hw]; simp
    have HD : Hid (Flat w2 w1.heap.size 3 fH (List.replicate s' 0)) := by
      rw [hw]
      exact (Blk.new w1 _ 3).keep (Below.heap_alloc _ _ _ (by simp))
    have BX : Hid (Blk w2 (w1.heap.size + 1) 60 #[.int .i64 (s' : Nat), .int .i64 (n' : Nat), .slice (some ⟨w1.heap.size, 0, none⟩) s' s', .slice none 0 0, .int .i64 0, .int .i64 0, .int .i64 0]) := by
      rw [hw]
      have := Blk.new (w1.alloc (.cells ((List.replicate s' 0).flatMap fH).toArray 3)) #[.int .i64 (s' : Nat), .int .i64 (n' : Nat), .slice (some ⟨w1.heap.size, 0, none⟩) s' s', .slice none 0 0, .int .i64 0, .int .i64 0, .int .i64 0] 60
      rwa [show (w1.alloc (.cells ((List.replicate s' 0).flatMap fH).toArray 3)).heap.size = w1.heap.size + 1 by simp] at this
    clear hw
    have Z2 := Mm.hid (Z1.out.keep (B2.out.block _ Z1.out.lt))
    have C2 := Mm.hid (C1.out.below B2.out)
    have B3 := Mm.hid (B1.out.trans (B2.out.mono B1.out.size))
    have lz := Z1.out.lt
    have q0 : w2.cell? ⟨w.heap.size, 0, none⟩ = some (.pointer none) := Z2.out.cell 0
    have q1 : w2.cell? ⟨w.heap.size, 1, none⟩ = some (.pointer none) := Z2.out.cell 1
    have p0 : w2.frozen? ⟨w.heap.size, 0, none⟩ = false := Z2.out.free 0
    have p1 : w2.frozen? ⟨w.heap.size, 1, none⟩ = false := Z2.out.free 1
    go_wp2_with fail
    refine bodyPost_ret (v := .tuple #[.agg #[.pointer (some ⟨w.heap.size + 1 + 1, 0, none⟩), .pointer (some ⟨w1.heap.size + 1, 0, none⟩)], .bool true]) (by simp [results, Try.results15, go_sem, q0, q1]) rfl ?_
    have FS : Fr (fun g => g = w.heap.size) w2 ((w2.setCell ⟨w.heap.size, 0, none⟩ (.pointer (some ⟨w.heap.size + 1 + 1, 0, none⟩))).setCell ⟨w.heap.size, 1, none⟩ (.pointer (some ⟨w1.heap.size + 1, 0, none⟩))) := (Fr.setCell w2 ⟨w.heap.size, 0, none⟩ _).trans (Fr.setCell _ ⟨w.heap.size, 1, none⟩ _) fun _ _ e => e
    refine .inr ⟨s', n', w.heap.size + 1, w1.heap.size, rfl, rfl, rfl, B3.out.trans (FS.below (B := w.heap.size) (fun g e => Nat.le_of_eq e.symm) B3.out.size), by omega, by simp; omega, fun B hB => ?_⟩
    have hB : w2.heap.size ≤ B := by simpa using hB
    have D : Duo w2 B (w.heap.size + 1) w1.heap.size n' (St.new s' n') (RS.new s') (.slice none 0 0) 0 :=
      ⟨C2.out, ⟨by simpa [RS.new] using BX.out, HD.out, ⟨rfl, .inl ⟨rfl, rfl⟩⟩, by omega⟩, new_ok z1 z2 z3 z4, new_small _ _, new_uniq _ _, ⟨0, 0, CI.new _ _⟩, Sim.new _ _, by simpa [St.new] using top⟩
    refine D.keep FS fun k hk e => ?_
    have e : k = w.heap.size := e
    rcases hk with ⟨h1, _⟩ | h | h | h
    · omega
    · omega
    · omega
    · cases h
end Go.Proofs.Ythojgfnaanckeaa

/- Walk: act: one call on a cache and on the document's. -/
import Derived.Test.YthojgfnaanckeaaActsD
namespace Go.Proofs.Ythojgfnaanckeaa
open Go.RowKit Go.Mm
/-- the worlds of act: both values boxed -/
structure Act0 (w0 w : World) (B b r n : Nat) (S : St) (R : RS) (v : Value) (K : Nat) (x : Ac) : Prop where
  d : Duo w B b r n S R v K
  two : Blk w w0.heap.size 40 #[.pointer (some ⟨b + 1, 0, none⟩), .pointer (some ⟨r + 1, 0, none⟩)]
  act : Blk w (w0.heap.size + 1) 45 #[.int .i64 x.do_, .int .i64 x.tag, .int .i64 x.s, .int .i64 x.o, .int .i64 x.a, .bool x.al]
  fr : Fr (DX b r S.rows.length v) w0 w
theorem dx_lt {w : World} {B b r n : Nat} {S : St} {R : RS} {v : Value} {K : Nat} (h : Duo w B b r n S R v K) {k : Nat} (hk : DX b r S.rows.length v k) : k < w.heap.size := by
  have h1 := h.rb.box.lt
  have h2 := h.low
  rcases hk with ⟨_, hk⟩ | hk | hk | hk
  · omega
  · omega
  · omega
  · exact (h.rb.list.lt k hk).2
theorem Act0.below {w0 w w' : World} {B b r n : Nat} {S : St} {R : RS} {v : Value} {K : Nat} {x : Ac} (h : Act0 w0 w B b r n S R v K x) (hb : Below w.heap.size w w') : Act0 w0 w' B b r n S R v K x :=
  ⟨h.d.below hb, h.two.keep (hb.block _ h.two.lt), h.act.keep (hb.block _ h.act.lt), h.fr.trans (Fr.of_below hb) fun _ _ e => e.elim⟩
theorem act_start {w : World} {B b r n : Nat} {S : St} {R : RS} {v : Value} {K : Nat} (x : Ac) (h : Duo w B b r n S R v K) :
    Act0 w ((w.alloc (.cells #[.pointer (some ⟨b + 1, 0, none⟩), .pointer (some ⟨r + 1, 0, none⟩)] 40)).alloc (.cells #[.int .i64 x.do_, .int .i64 x.tag, .int .i64 x.s, .int .i64 x.o, .int .i64 x.a, .bool x.al] 45)) B b r n S R v K x := by
  have hb : Below w.heap.size w ((w.alloc (.cells #[.pointer (some ⟨b + 1, 0, none⟩), .pointer (some ⟨r + 1, 0, none⟩)] 40)).alloc (.cells #[.int .i64 x.do_, .int .i64 x.tag, .int .i64 x.s, .int .i64 x.o, .int .i64 x.a, .bool x.al] 45)) := ((Below.refl _ w).alloc (Nat.le_refl _) _).alloc (by simp) _
  refine ⟨h.below hb, (Blk.new w _ 40).keep (Below.heap_alloc _ _ _ (by simp)), ?_, (Fr.of_below hb).mono fun _ e => e.elim⟩
  have := Blk.new (w.alloc (.cells #[.pointer (some ⟨b + 1, 0, none⟩), .pointer (some ⟨r + 1, 0, none⟩)] 40)) #[.int .i64 x.do_, .int .i64 x.tag, .int .i64 x.s, .int .i64 x.o, .int .i64 x.a, .bool x.al] 45
  rwa [show (w.alloc (.cells #[.pointer (some ⟨b + 1, 0, none⟩), .pointer (some ⟨r + 1, 0, none⟩)] 40)).heap.size = w.heap.size + 1 by simp] at this
/-- nothing was done -/
theorem Act0.done {w0 w : World} {B b r n : Nat} {S : St} {R : RS} {v : Value} {K : Nat} {x : Ac} (h : Act0 w0 w B b r n S R v K x) : ActEnds B b r n S v (K + 1) w0 (.returned (.bool true)) w :=
  ⟨rfl, S, R, v, ⟨h.d.c, h.d.rb, h.d.ok, h.d.small.more (Nat.le_succ K), h.d.uniq, h.d.ci, h.d.sim, h.d.low⟩, h.fr, rfl, fun _ h => .inl h⟩
theorem act_fin {w w0 w1 w2 : World} {B b r n : Nat} {S S' : St} {R R' : RS} {v v' : Value} {K : Nat} {x : Ac} (h : Act0 w w0 B b r n S R v K x) (hc : CacheB w1 b n S') (hf : Fr (InC b S.rows.length) w0 w1) (hw : w.heap.size ≤ w1.heap.size) (hrb : RB w2 B r n R' v') (hs : Sim S' R') (hfr : Fr (RX r v) w1 w2)
    (how : ∀ g, v'.ownBlock = some g → v.ownBlock = some g ∨ w1.heap.size ≤ g) (ho : S'.ok n) (hsm : S'.small (K + 1)) (hu : Uniq S') (hl : S'.rows.length = S.rows.length) (hci : ∃ a t, CI a t S') : ActEnds B b r n S v (K + 1) w (.returned (.bool true)) w2 := by
  have hlow := h.d.low
  have hB := h.d.rb.low
  refine ⟨rfl, S', R', v', ⟨hc.keepI ho.1 fun k hk => ?_, hrb, ho, hsm, hu, hci, hs, by rw [hl]; exact hlow⟩, (h.fr.trans (hf.mono fun _ e => .inl e) fun _ _ e => e).trans (hfr.mono fun k e => ?_) fun _ _ e => e, hl, fun g hg => ?_⟩
  · obtain ⟨h1, h2⟩ := hk
    rw [hl] at h2
    have h0 := h.d.rb.hands.lt
    refine hfr.block k (by have := hf.size; omega) ?_
    rintro (e | e | e)
    · omega
    · omega
    · have := (h.d.rb.list.lt k e).1; omega
  · rcases e with e | e | e
    · exact .inr (.inl e)
    · exact .inr (.inr (.inl e))
    · exact .inr (.inr (.inr e))
  · rcases how g hg with e | e
    · exact .inl e
    · exact .inr (Nat.le_trans hw e)
set_option maxRecDepth 100000 in
set_option maxHeartbeats 4000000 in
theorem act_any (B b r n : Nat) (S : St) (R : RS) (v : Value) (K : Nat) (x : Ac) (w : World) (h : Duo w B b r n S R v K) (hK : K ≤ 8796093022208) (hB : B ≤ w.heap.size) :
    Calls Try.prog 16 #[.agg #[.pointer (some ⟨b + 1, 0, none⟩), .pointer (some ⟨r + 1, 0, none⟩)], aV x] w (ActEnds B b r n S v (K + 1) w) := by
  have A0 := Mm.hid (act_start x h)
  have DL : Hid (∀ k, DX b r S.rows.length v k → k < w.heap.size) := fun k hk => dx_lt h hk
  have hr1 := h.rb.box.lt
  have hlow := h.low
  obtain ⟨asked, hits, hci⟩ := h.ci
  have CX := Mm.hid hci
  have DS := Mm.hid (ds_le h.sim h.ok hci)
  have SM := Mm.hid h.sim
  clear h hci
  obtain ⟨xd, xt, x1, x2, x3, xl⟩ := x
  unfold aV
  have t0 : ((w.alloc (.cells #[.pointer (some ⟨b + 1, 0, none⟩), .pointer (some ⟨r + 1, 0, none⟩)] 40)).alloc (.cells #[.int .i64 xd, .int .i64 xt, .int .i64 x1, .int .i64 x2, .int .i64 x3, .bool xl] 45)).heap.size = w.heap.size + 2 := by simp
  by_cases h1 : (xd == 1) = true
  · go_enter Try.func16, Try.ntmps16
    go_wp2_with fail
    generalize (w.alloc (.cells #[.pointer (some ⟨b + 1, 0, none⟩), .pointer (some ⟨r + 1, 0, none⟩)] 40)).alloc (.cells #[.int .i64 xd, .int .i64 xt, .int .i64 x1, .int .i64 x2, .int .i64 x3, .bool xl] 45) = w0 at *
    refine (get_any b n S xt x1 x2 x3 K _ A0.out.d.c A0.out.d.ok A0.out.d.small (by omega)).mono ?_
    rintro e w1 ⟨rfl, hc1, hf1⟩
    have C1 := Mm.hid hc1
    have F1 := Mm.hid hf1
    have T1 := Mm.hid (A0.out.two.keep (hf1.block _ A0.out.two.lt (fun e => by have := e.2; omega)))
    have X1 := Mm.hid (A0.out.act.keep (hf1.block _ A0.out.act.lt (fun e => by have := e.2; omega)))
    have R1 := Mm.hid (A0.out.d.rb.keep hf1 (fun e => by have := e.2; omega) (fun e => by have := e.2; omega) (fun g hg e => by have := e.2; have := (A0.out.d.rb.list.lt g hg).1; have := A0.out.d.rb.low; omega))
    have s1 : w.heap.size + 2 ≤ w1.heap.size := by have := hf1.size; omega
    clear hc1 hf1
    have u1 : w1.cell? ⟨w.heap.size, 1, none⟩ = some (.pointer (some ⟨r + 1, 0, none⟩)) := T1.out.cell 1
    have y1 : w1.cell? ⟨w.heap.size + 1, 1, none⟩ = some (.int .i64 xt) := X1.out.cell 1
    have y2 : w1.cell? ⟨w.heap.size + 1, 2, none⟩ = some (.int .i64 x1) := X1.out.cell 2
    have y3 : w1.cell? ⟨w.heap.size + 1, 3, none⟩ = some (.int .i64 x2) := X1.out.cell 3
    have y4 : w1.cell? ⟨w.heap.size + 1, 4, none⟩ = some (.int .i64 x3) := X1.out.cell 4
    go_wp2_with fail
    refine (rget_any B r n S R v xt x1 x2 x3 K _ R1.out SM.out A0.out.d.uniq CX.out.clean A0.out.d.ok A0.out.d.small (by omega) DS.out (by omega)).mono ?_
    rintro e w2 ⟨rfl, R', v', rb2, sim2, fr2, own2⟩
    have RB2 := Mm.hid rb2
    have SI2 := Mm.hid sim2
    have FR2 := Mm.hid fr2
    have OW2 := Mm.hid own2
    clear rb2 sim2 fr2 own2 y1 y2 y3 y4 u1
    have N5 : Hid ((getS S xt x1 x2 x3).2.ok n ∧ (getS S xt x1 x2 x3).2.small (K + 1) ∧ Uniq (getS S xt x1 x2 x3).2 ∧ (getS S xt x1 x2 x3).2.rows.length = S.rows.length) := ⟨getS_ok _ _ _ _ A0.out.d.ok, getS_small _ _ _ _ A0.out.d.small, getS_uniq _ _ _ _ A0.out.d.uniq, getS_len _ _ _ _ _⟩
    have I5 := Mm.hid (CX.out.get A0.out.d.ok xt x1 x2 x3)
    generalize (getS S xt x1 x2 x3).1.1 = gx at *
    generalize (getS S xt x1 x2 x3).1.2 = gy at *
    go_wp2
    go_ret
    exact act_fin A0.out C1.out F1.out (by omega) RB2.out SI2.out FR2.out OW2.out N5.out.1 N5.out.2.1 N5.out.2.2.1 N5.out.2.2.2 ⟨_, _, I5.out⟩
  · have h1' : (xd == 1) = false := by simpa using h1
    clear h1
    by_cases h2 : (xd == 2) = true
    · go_enter Try.func16, Try.ntmps16
      go_wp2_with fail
      generalize (w.alloc (.cells #[.pointer (some ⟨b + 1, 0, none⟩), .pointer (some ⟨r + 1, 0, none⟩)] 40)).alloc (.cells #[.int .i64 xd, .int .i64 xt, .int .i64 x1, .int .i64 x2, .int .i64 x3, .bool xl] 45) = w0 at *
      refine (put_any b n S xt x1 x2 x3 xl K _ A0.out.d.c A0.out.d.ok A0.out.d.small (by omega)).mono ?_
      rintro e w1 ⟨rfl, hc1, hf1⟩
      have C1 := Mm.hid hc1
      have F1 := Mm.hid hf1
      have T1 := Mm.hid (A0.out.two.keep (hf1.block _ A0.out.two.lt (fun e => by have := e.2; omega)))
      have X1 := Mm.hid (A0.out.act.keep (hf1.block _ A0.out.act.lt (fun e => by have := e.2; omega)))
      have R1 := Mm.hid (A0.out.d.rb.keep hf1 (fun e => by have := e.2; omega) (fun e => by have := e.2; omega) (fun g hg e => by have := e.2; have := (A0.out.d.rb.list.lt g hg).1; have := A0.out.d.rb.low; omega))
      have s1 : w.heap.size + 2 ≤ w1.heap.size := by have := hf1.size; omega
      clear hc1 hf1
      have u1 : w1.cell? ⟨w.heap.size, 1, none⟩ = some (.pointer (some ⟨r + 1, 0, none⟩)) := T1.out.cell 1
      have y1 : w1.cell? ⟨w.heap.size + 1, 1, none⟩ = some (.int .i64 xt) := X1.out.cell 1
      have y2 : w1.cell? ⟨w.heap.size + 1, 2, none⟩ = some (.int .i64 x1) := X1.out.cell 2
      have y3 : w1.cell? ⟨w.heap.size + 1, 3, none⟩ = some (.int .i64 x2) := X1.out.cell 3
      have y4 : w1.cell? ⟨w.heap.size + 1, 4, none⟩ = some (.int .i64 x3) := X1.out.cell 4
      have y5 : w1.cell? ⟨w.heap.size + 1, 5, none⟩ = some (.bool xl) := X1.out.cell 5
      go_wp2_with fail
      refine (rput_any B r n S R v xt x1 x2 x3 xl K _ R1.out SM.out A0.out.d.uniq CX.out.clean A0.out.d.ok A0.out.d.small (by omega) DS.out (by omega)).mono ?_
      rintro e w2 ⟨rfl, R', v', rb2, sim2, fr2, own2⟩
      have RB2 := Mm.hid rb2
      have SI2 := Mm.hid sim2
      have FR2 := Mm.hid fr2
      have OW2 := Mm.hid own2
      clear rb2 sim2 fr2 own2 y1 y2 y3 y4 y5 u1
      go_wp2
      go_ret
      exact act_fin A0.out C1.out F1.out (by omega) RB2.out SI2.out FR2.out OW2.out (putS_ok _ _ _ _ _ A0.out.d.ok) (putS_small _ _ _ _ _ A0.out.d.small) (putS_uniq _ _ _ _ _ A0.out.d.uniq) (putS_len _ _ _ _ _ _ _) ⟨_, _, CX.out.put A0.out.d.ok xt x1 x2 x3 xl⟩
    · have h2' : (xd == 2) = false := by simpa using h2
      clear h2
      by_cases h3 : (xd == 3) = true
      · go_enter Try.func16, Try.ntmps16
        go_wp2_with fail
        generalize (w.alloc (.cells #[.pointer (some ⟨b + 1, 0, none⟩), .pointer (some ⟨r + 1, 0, none⟩)] 40)).alloc (.cells #[.int .i64 xd, .int .i64 xt, .int .i64 x1, .int .i64 x2, .int .i64 x3, .bool xl] 45) = w0 at *
        have u0 : w0.cell? ⟨w.heap.size, 0, none⟩ = some (.pointer (some ⟨b + 1, 0, none⟩)) := A0.out.two.cell 0
        have u1 : w0.cell? ⟨w.heap.size, 1, none⟩ = some (.pointer (some ⟨r + 1, 0, none⟩)) := A0.out.two.cell 1
        have y2 : w0.cell? ⟨w.heap.size + 1, 2, none⟩ = some (.int .i64 x1) := A0.out.act.cell 2
        have y3 : w0.cell? ⟨w.heap.size + 1, 3, none⟩ = some (.int .i64 x2) := A0.out.act.cell 3
        have y4 : w0.cell? ⟨w.heap.size + 1, 4, none⟩ = some (.int .i64 x3) := A0.out.act.cell 4
        have hL : R.hands.length = S.rows.length := by rw [SM.out.hands, List.length_map]
        have HL := Mm.hid hL
        clear hL
        obtain ⟨i, hi⟩ : ∃ i, spot S.rows.length x1 x2 x3 = i := ⟨_, rfl⟩
        have HI := Mm.hid hi
        clear hi
        go_region_held3 (fun w' => w'.cell? ⟨w.heap.size, 0, none⟩ = some (.pointer (some ⟨b + 1, 0, none⟩)) ∧ w'.cell? ⟨w.heap.size, 1, none⟩ = some (.pointer (some ⟨r + 1, 0, none⟩)) ∧ w'.cell? ⟨w.heap.size + 1, 2, none⟩ = some (.int .i64 x1) ∧ w'.cell? ⟨w.heap.size + 1, 3, none⟩ = some (.int .i64 x2) ∧ w'.cell? ⟨w.heap.size + 1, 4, none⟩ = some (.int .i64 x3)) (go_keep)
          (first | (go_at_call 24; refine (spot_any' b n S x1 x2 x3 i _ (by exact A0.out.d.c.keep (fun _ _ _ => rfl)) A0.out.d.ok.1 A0.out.d.ok.2.1 HI.out).mono ?_; rintro e w6 ⟨rfl, rfl⟩) | (go_at_call 25; refine (rspot_any B r n R v x1 x2 x3 _ (by exact A0.out.d.rb.below (Below.refl _ _).drew) (by rw [HL.out]; exact A0.out.d.ok.1) (by rw [HL.out]; exact A0.out.d.ok.2.1)).mono ?_; rintro e w6 ⟨rfl, hb6⟩; rw [HL.out, HI.out]; have A6 := Mm.hid (A0.out.below (undrew hb6)); have z0 : w6.cell? ⟨w.heap.size, 0, none⟩ = some (.pointer (some ⟨b + 1, 0, none⟩)) := A6.out.two.cell 0; have z1 : w6.cell? ⟨w.heap.size, 1, none⟩ = some (.pointer (some ⟨r + 1, 0, none⟩)) := A6.out.two.cell 1; have z2 : w6.cell? ⟨w.heap.size + 1, 2, none⟩ = some (.int .i64 x1) := A6.out.act.cell 2; have z3 : w6.cell? ⟨w.heap.size + 1, 3, none⟩ = some (.int .i64 x2) := A6.out.act.cell 3; have z4 : w6.cell? ⟨w.heap.size + 1, 4, none⟩ = some (.int .i64 x3) := A6.out.act.cell 4; clear hb6))
        all_goals go_wp2
        all_goals go_ret
        all_goals exact A6.out.done
      · have h3' : (xd == 3) = false := by simpa using h3
        clear h3
        by_cases h4 : (xd == 4) = true
        · go_enter Try.func16, Try.ntmps16
          go_wp2_with fail
          generalize (w.alloc (.cells #[.pointer (some ⟨b + 1, 0, none⟩), .pointer (some ⟨r + 1, 0, none⟩)] 40)).alloc (.cells #[.int .i64 xd, .int .i64 xt, .int .i64 x1, .int .i64 x2, .int .i64 x3, .bool xl] 45) = w0 at *
          have u0 : w0.cell? ⟨w.heap.size, 0, none⟩ = some (.pointer (some ⟨b + 1, 0, none⟩)) := A0.out.two.cell 0
          have u1 : w0.cell? ⟨w.heap.size, 1, none⟩ = some (.pointer (some ⟨r + 1, 0, none⟩)) := A0.out.two.cell 1
          have q30 := eq30' S.hits S.misses S.ev S.held
          go_region_held3 (fun w' => w'.cell? ⟨w.heap.size, 0, none⟩ = some (.pointer (some ⟨b + 1, 0, none⟩)) ∧ w'.cell? ⟨w.heap.size, 1, none⟩ = some (.pointer (some ⟨r + 1, 0, none⟩))) (go_keep)
            (first | (go_at_call 12; refine (stats_any _ (by exact A0.out.d.c.keep (fun _ _ _ => rfl))).mono ?_; rintro e w6 ⟨rfl, hb⟩; have Aw6 := Mm.hid (A0.out.below (undrew hb)); have z0 : w6.cell? ⟨w.heap.size, 0, none⟩ = some (.pointer (some ⟨b + 1, 0, none⟩)) := Aw6.out.two.cell 0; have z1 : w6.cell? ⟨w.heap.size, 1, none⟩ = some (.pointer (some ⟨r + 1, 0, none⟩)) := Aw6.out.two.cell 1; clear hb) | (go_at_call 26; refine (rstats_any B r n R v _ (by exact Aw6.out.d.rb)).mono ?_; rintro e w7 ⟨he, hb⟩; rw [SM.out.hits, SM.out.misses, SM.out.ev, ← SM.out.held] at he; subst he; have Aw7 := Mm.hid (Aw6.out.below hb); have z0 : w7.cell? ⟨w.heap.size, 0, none⟩ = some (.pointer (some ⟨b + 1, 0, none⟩)) := Aw7.out.two.cell 0; have z1 : w7.cell? ⟨w.heap.size, 1, none⟩ = some (.pointer (some ⟨r + 1, 0, none⟩)) := Aw7.out.two.cell 1; clear hb))
          all_goals go_wp2
          all_goals go_ret
          all_goals exact Aw7.out.done
        · have h4' : (xd == 4) = false := by simpa using h4
          clear h4
          by_cases h5 : (xd == 5) = true
          · rcases Nat.eq_zero_or_pos asked with h0 | h0
            · have HH : Hid (S.hits = 0 ∧ S.misses = 0) := by
                have e1 := CX.out.hits
                have e2 := CX.out.asked
                have e3 := CX.out.misses
                exact ⟨by omega, by omega⟩
              clear h0
              go_enter Try.func16, Try.ntmps16
              go_wp2_with fail
              generalize (w.alloc (.cells #[.pointer (some ⟨b + 1, 0, none⟩), .pointer (some ⟨r + 1, 0, none⟩)] 40)).alloc (.cells #[.int .i64 xd, .int .i64 xt, .int .i64 x1, .int .i64 x2, .int .i64 x3, .bool xl] 45) = w0 at *
              have u0 : w0.cell? ⟨w.heap.size, 0, none⟩ = some (.pointer (some ⟨b + 1, 0, none⟩)) := A0.out.two.cell 0
              have u1 : w0.cell? ⟨w.heap.size, 1, none⟩ = some (.pointer (some ⟨r + 1, 0, none⟩)) := A0.out.two.cell 1
              have h00 : (FloatKind.f64.format.order 0 0 == some .eq) = true := by decide
              go_region_held3 (fun w' => w'.cell? ⟨w.heap.size, 0, none⟩ = some (.pointer (some ⟨b + 1, 0, none⟩)) ∧ w'.cell? ⟨w.heap.size, 1, none⟩ = some (.pointer (some ⟨r + 1, 0, none⟩))) (go_keep)
                (first | (go_at_call 13; refine (ratio_none _ (by exact A0.out.d.c.keep (fun _ _ _ => rfl)) HH.out.1 HH.out.2).mono ?_; rintro e w6 ⟨rfl, hb⟩; have Aw6 := Mm.hid (A0.out.below (undrew hb)); have z0 : w6.cell? ⟨w.heap.size, 0, none⟩ = some (.pointer (some ⟨b + 1, 0, none⟩)) := Aw6.out.two.cell 0; have z1 : w6.cell? ⟨w.heap.size, 1, none⟩ = some (.pointer (some ⟨r + 1, 0, none⟩)) := Aw6.out.two.cell 1; clear hb) | (go_at_call 27; refine (rratio_none B r n R v _ (by exact Aw6.out.d.rb) (by rw [SM.out.hits]; exact HH.out.1) (by rw [SM.out.misses]; exact HH.out.2)).mono ?_; rintro e w7 ⟨rfl, hb⟩; have Aw7 := Mm.hid (Aw6.out.below hb); have z0 : w7.cell? ⟨w.heap.size, 0, none⟩ = some (.pointer (some ⟨b + 1, 0, none⟩)) := Aw7.out.two.cell 0; have z1 : w7.cell? ⟨w.heap.size, 1, none⟩ = some (.pointer (some ⟨r + 1, 0, none⟩)) := Aw7.out.two.cell 1; clear hb))
              all_goals go_wp2
              all_goals go_ret
              all_goals exact Aw7.out.done
            · obtain ⟨m, hm⟩ : ∃ m : Nat, S.misses = (m : Nat) := ⟨S.misses.toNat, by have := CX.out.misses; omega⟩
              have e1 := CX.out.hits
              have e2 := CX.out.asked
              have e3 := A0.out.d.small.2.1
              have e4 := A0.out.d.small.2.2.2.1
              obtain ⟨q, hq, hqq⟩ := quo_self hits asked (by omega) h0 (by omega)
              have hsum : ((asked : Nat) : Int) = ((hits : Nat) : Int) + ((m : Nat) : Int) := by omega
              have HH : Hid (0 ≤ S.hits ∧ 0 ≤ S.misses ∧ S.hits + S.misses ≠ 0 ∧ S.hits + S.misses ≤ 9223372036854775807 ∧ floatBits .quo .f64 (floatOfInt .f64 S.hits) (floatOfInt .f64 (S.hits + S.misses)) = some q) := by
                refine ⟨by omega, by omega, by omega, by omega, ?_⟩
                rw [e2, e1]; exact hq
              have HM : Hid (R.hits = ((hits : Nat) : Int) ∧ R.misses = ((m : Nat) : Int) ∧ hits + m ≠ 0 ∧ hits + m ≤ 17592186044416 ∧ floatBits .quo .f64 (floatOfInt .f64 ((hits : Nat) : Int)) (floatOfInt .f64 (((hits : Nat) : Int) + ((m : Nat) : Int))) = some q) := by
                refine ⟨by rw [SM.out.hits]; exact e1, by rw [SM.out.misses]; exact hm, by omega, by omega, ?_⟩
                rw [← hsum]; exact hq
              clear hm e1 e2 e3 e4 hq hsum h0
              go_enter Try.func16, Try.ntmps16
              go_wp2_with fail
              generalize (w.alloc (.cells #[.pointer (some ⟨b + 1, 0, none⟩), .pointer (some ⟨r + 1, 0, none⟩)] 40)).alloc (.cells #[.int .i64 xd, .int .i64 xt, .int .i64 x1, .int .i64 x2, .int .i64 x3, .bool xl] 45) = w0 at *
              have u0 : w0.cell? ⟨w.heap.size, 0, none⟩ = some (.pointer (some ⟨b + 1, 0, none⟩)) := A0.out.two.cell 0
              have u1 : w0.cell? ⟨w.heap.size, 1, none⟩ = some (.pointer (some ⟨r + 1, 0, none⟩)) := A0.out.two.cell 1
              go_region_held3 (fun w' => w'.cell? ⟨w.heap.size, 0, none⟩ = some (.pointer (some ⟨b + 1, 0, none⟩)) ∧ w'.cell? ⟨w.heap.size, 1, none⟩ = some (.pointer (some ⟨r + 1, 0, none⟩))) (go_keep)
                (first | (go_at_call 13; refine (ratio_some _ q (by exact A0.out.d.c.keep (fun _ _ _ => rfl)) HH.out.1 HH.out.2.1 HH.out.2.2.1 HH.out.2.2.2.1 HH.out.2.2.2.2).mono ?_; rintro e w6 ⟨rfl, hb⟩; have Aw6 := Mm.hid (A0.out.below (undrew hb)); have z0 : w6.cell? ⟨w.heap.size, 0, none⟩ = some (.pointer (some ⟨b + 1, 0, none⟩)) := Aw6.out.two.cell 0; have z1 : w6.cell? ⟨w.heap.size, 1, none⟩ = some (.pointer (some ⟨r + 1, 0, none⟩)) := Aw6.out.two.cell 1; clear hb) | (go_at_call 27; refine (rratio_some B r n R v _ (by exact Aw6.out.d.rb) hits m HM.out.1 HM.out.2.1 HM.out.2.2.1 HM.out.2.2.2.1 q HM.out.2.2.2.2).mono ?_; rintro e w7 ⟨rfl, hb⟩; have Aw7 := Mm.hid (Aw6.out.below hb); have z0 : w7.cell? ⟨w.heap.size, 0, none⟩ = some (.pointer (some ⟨b + 1, 0, none⟩)) := Aw7.out.two.cell 0; have z1 : w7.cell? ⟨w.heap.size, 1, none⟩ = some (.pointer (some ⟨r + 1, 0, none⟩)) := Aw7.out.two.cell 1; clear hb))
              all_goals go_wp2
              all_goals go_ret
              all_goals exact Aw7.out.done
          · have h5' : (xd == 5) = false := by simpa using h5
            clear h5
            go_enter Try.func16, Try.ntmps16
            go_wp2
            go_ret
            exact A0.out.done
end Go.Proofs.Ythojgfnaanckeaa

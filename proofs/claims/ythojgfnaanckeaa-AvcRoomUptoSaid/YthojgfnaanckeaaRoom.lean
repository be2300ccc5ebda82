/- Walk: the law AvcRoom, where the steps are at most 2^20. -/
import Derived.Test.YthojgfnaanckeaaHitW
import Derived.Deep.CutRange
namespace Go.Proofs.Ythojgfnaanckeaa
open Go.RowKit Go.Mm
def fI (x : Int) : List Value := [.int .i64 x]
theorem open_nums {H : Type} {enc : TypeId × Value → H} {w : World} {b0 : Nat} {spare : Nat → Bool} {held : Bool} {v : Value} {d : DataW H} {ps : List MemPlace} {ts : List TypeId} {ds : List (DataW H)} {j : Nat} (hval : Value.okWide Try.prog w .any b0 55 v) (hd : DataW.Trod enc Try.prog w 0 spare held 55 v d ps)
    (hz : (DataW.weightsEach Try.prog ts ds).all (· ≤ reachBytes) = true) (hj : ts[j]? = some 55) (hj' : ds[j]? = some d) :
    ∃ A n c xs, v = .slice A n c ∧ Sl w 1 8 fI g64 A n c xs :=
  open_sl fI g64 Try.underlying55 (by kernel_rfl) (by decide) (by kernel_rfl) (fun _ _ _ h => by
    obtain ⟨m, rfl, _, hw⟩ := DataW.trod_int Try.underlying3 h
    exact ⟨m, rfl, hw⟩) hval hd hz hj hj'
theorem info45 : (Try.prog.info? 45).map (fun i => (i.zero, i.size, i.bytes)) = some (some (.agg #[.int .i64 0, .int .i64 0, .int .i64 0, .int .i64 0, .int .i64 0, .bool false]), 6, 48) := by kernel_rfl
theorem rd_cell {w : World} {A : Option Addr} {n sz j : Nat} {xs : List Value} {u : Value} (h : Rd w A n sz xs) (hu : xs[j]? = some u) : ∃ ad, A = some ad ∧ ad.block < w.heap.size ∧ w.cell? (ad.add j) = some u := by
  have hn : 0 < n := by
    rcases Nat.eq_zero_or_pos n with rfl | h0
    · have h1 := h.1
      have := (List.getElem?_eq_some_iff.1 hu).1
      rw [Nat.zero_mul] at h1; omega
    · exact h0
  obtain ⟨ad, h1, h2, h3⟩ := h.2 hn
  exact ⟨ad, h1, h2, h3 j u hu⟩
def WhichP (m : Nat) (w : World) (e : Ending) (w' : World) : Prop := ∃ q : Nat, q < m ∧ e = .returned (.int .i64 ((q : Int) + 1)) ∧ w = w'
theorem which_p (x : Int) (m : Nat) (w : World) (hm : 1 ≤ m) (hm' : m ≤ 256) : Calls Try.prog 17 #[.int .i64 x, .int .i64 (m : Nat)] w (WhichP m w) := by
  refine (which_any x m w hm hm').mono ?_
  rintro e w' ⟨rfl, rfl⟩
  have q1 := Int.emod_nonneg x (show (m : Int) ≠ 0 by omega)
  have q2 := Int.emod_lt_of_pos x (show (0 : Int) < m by omega)
  exact ⟨(x % (m : Int)).toNat, by omega, by simp, rfl⟩
def keyL (xs : List Ac) : List (Int × Int × Int) := xs.map fun x => (x.s, x.o, x.a)
theorem CacheB.keepC {w w' : World} {b n : Nat} {S : St} (h : CacheB w b n S) (h1 : 1 ≤ S.rows.length) (hk : ∀ k, InC b S.rows.length k → w'.heap[k]? = w.heap[k]?) : CacheB w' b n S :=
  ⟨h.cache.keep (hk _ ⟨by omega, by omega⟩), h.sets.keep (hk _ ⟨by omega, by omega⟩), fun i r hi => ⟨(h.rows i r hi).1, (h.rows i r hi).2.keep (hk _ ⟨by omega, by have := (List.getElem?_eq_some_iff.1 hi).1; omega⟩)⟩⟩
/-- all that is held of the cache, between two calls -/
structure RW (b m : Nat) (tag : Int) (ks : List (Int × Int × Int)) (ps : List Ac) (wr : World) (S : St) (k J : Nat) : Prop where
  c : CacheB wr b m S
  r : RI m tag ks ps S k
  s : S.small J
theorem RW.put {b m : Nat} {tag : Int} {ks : List (Int × Int × Int)} {ps : List Ac} {wr w1 : World} {S : St} {k J : Nat} (h : RW b m tag ks ps wr S k J) (y : Ac) (hd : y.do_ = 2) (ht : y.tag = tag) (hk : (y.s, y.o, y.a) ∈ ks) (hc : CacheB w1 b m (putS m S tag y.s y.o y.a y.al)) :
    RW b m tag ks (ps ++ [y]) w1 (putS m S tag y.s y.o y.a y.al) (k + 1) (J + 1) :=
  ⟨hc, h.r.put y hd ht hk, putS_small _ _ _ _ _ h.s⟩
theorem RW.get {b m : Nat} {tag : Int} {ks : List (Int × Int × Int)} {ps : List Ac} {wr w1 : World} {S : St} {k J : Nat} (h : RW b m tag ks ps wr S k J) {s o a : Int} {y : Ac} (hy : lastPut ps s o a = some y) (hc : CacheB w1 b m (getS S tag s o a).2) :
    RW b m tag ks ps w1 (getS S tag s o a).2 k (J + 1) :=
  ⟨hc, (h.r.get hy).2 _, getS_small _ _ _ _ h.s⟩
theorem RW.below {b m : Nat} {tag : Int} {ks : List (Int × Int × Int)} {ps : List Ac} {wr w1 : World} {S : St} {k J : Nat} (h : RW b m tag ks ps wr S k J) (hb : Below wr.heap.size wr w1) : RW b m tag ks ps w1 S k J := ⟨h.c.below hb, h.r, h.s⟩
theorem new_ri {n m : Nat} {tag : Int} {ks : List (Int × Int × Int)} (h1 : 1 ≤ n) (h2 : n ≤ 256) (h3 : 1 ≤ m) (h4 : m ≤ 8) (hk : ks.length ≤ m) : RI m tag ks [] (St.new n m) 0 :=
  ⟨new_ok h1 h2 h3 h4, ⟨by simp [St.new], by simp [St.new]⟩, new_uniq _ _, new_clean _ _, rfl, rfl, (fun _ _ _ _ _ hi => absurd hi new_in), hk, (fun y hy => by cases hy), (fun _ _ _ _ h => by simp [lastPut] at h)⟩
set_option maxRecDepth 100000 in
set_option maxHeartbeats 8000000 in
theorem law_room (s n tag : Int) (A : Option Addr) (N c : Nat) (xs : List Ac) (A2 : Option Addr) (N2 c2 : Nat) (ys : List Int) (w : World) (_ : (Lit.int .i64 s).wf = true) (_ : (Lit.int .i64 n).wf = true) (_ : (Lit.int .i64 tag).wf = true) (h : Sl w 6 48 fA gA A N c xs) (h2 : Sl w 1 8 fI g64 A2 N2 c2 ys) (_ : N ≤ 1048576) (hN2 : N2 ≤ 1048576) :
    Calls Try.prog 8 #[.int .i64 s, .int .i64 n, .int .i64 tag, .slice A N c, .slice A2 N2 c2] w fun e w' => e = .returned (.bool true) ∧ Below w.heap.size w w' := by
  have hcap : N ≤ c := h.cap
  have R := Mm.hid (rdA_of h.len h.rd)
  have R2 : Hid (Rd w A2 N2 1 (ys.map (Value.int .i64))) := by have := h2.rd; rw [show ys.flatMap fI = ys.map (Value.int .i64) from flatMap_one _ _] at this; exact this
  have L2 := Mm.hid h2.len
  clear h h2
  go_enter Try.func8, Try.ntmps8
  go_wp2_with fail
  refine (alive_true _).mono ?_
  rintro e w1 ⟨rfl, hb⟩
  have B1 := Mm.hid hb
  clear hb
  go_wp2_with fail
  refine (which_nat n 8 _ (by decide) (by decide)).mono ?_
  rintro e w2 ⟨m, z3, z4, rfl, rfl⟩
  go_wp2_with fail
  refine (which_nat s 256 _ (by decide) (by decide)).mono ?_
  rintro e w2 ⟨len, z1, z2, rfl, rfl⟩
  go_wp2_with fail
  refine (new_good len m _ z1 z2 z3 z4).mono ?_
  rintro e w2 ⟨rfl, hc, hb⟩
  have hle := B1.out.size
  have C2 := Mm.hid hc
  have B2 := Mm.hid (B1.out.trans (hb.mono hle))
  clear hc hb
  generalize w1.heap.size = b at *
  clear B1
  go_upto_if 47 with (fail)
  go_cut [3] from 47 to 50 (fun v wc => ∃ K : Nat, v = .slice A K c ∧ K ≤ m ∧ K ≤ N ∧ w2 = wc)
  case first =>
    by_cases hNm : (m : Int) < N
    · go_wp2_with fail
      go_meet
      exact ⟨m, rfl, Nat.le_refl _, by omega, rfl⟩
    · go_wp2_with fail
      go_meet
      exact ⟨N, rfl, by omega, Nat.le_refl _, rfl⟩
  case rest =>
    obtain ⟨K, rfl, hK1, hK2, rfl⟩ := hcut
    have hkl : (keyL (xs.take K)).length ≤ m := by simp [keyL]; omega
    have C0 := Mm.hid (RW.mk C2.out (new_ri (tag := tag) (ks := keyL (xs.take K)) z1 z2 z3 z4 hkl) (new_small len m))
    have RK := Mm.hid (R.out.take hK2)
    have hb2 : b + 2 + len ≤ w2.heap.size := by have := C2.out.top (by simpa [St.new] using z1); simpa [St.new] using this
    have hbb : w.heap.size ≤ b := hle
    clear C2 hkl R
    go_wp2_with fail
    go_loopw [15, 16] (fun pv i wr => ∃ (k J : Nat) (ps : List Ac) (S : St), k ≤ N2 ∧ J ≤ k * 1048578 ∧ i = .int .i64 (k : Nat) ∧ Hid (ps.length = k ∧ S.rows.length = len ∧ RW b m tag (keyL (xs.take K)) ps wr S k J ∧ wr.ownsRow w2.heap.size 45 6 pv k (ps.flatMap fA) ∧ Below b w2 wr)) (fun _ i _ => N2 - (intOf i).toNat)
    case atStart => exact ⟨0, 0, [], St.new len m, Nat.zero_le _, Nat.zero_le _, rfl, rfl, by simp [St.new], C0.out, ⟨by simp, .inl ⟨rfl, rfl⟩⟩, Below.refl _ _⟩
    case round =>
      obtain ⟨k, J, ps, S, hk, hJ, rfl, HR⟩ := hrel
      clear C0
      have hsz : w2.heap.size ≤ wr.heap.size := HR.out.2.2.2.2.size
      have BW := Mm.hid (B2.out.trans (HR.out.2.2.2.2.mono hbb))
      by_cases hlt : k < N2
      · by_cases hK0 : 0 < K
        · obtain ⟨ad2, rfl, _, f2⟩ := rd_cell (R2.out.below BW.out) (j := k) (by rw [List.getElem?_map, List.getElem?_eq_getElem (by rw [L2.out]; exact hlt)]; rfl)
          generalize ys[k]'(by rw [L2.out]; exact hlt) = y at f2
          obtain ⟨ad, hA, _, hcell⟩ := (RK.out.below BW.out).2 hK0
          subst hA
          go_wp2_with fail
          refine (which_p y K _ hK0 (by omega)).mono ?_
          rintro e w5 ⟨q, hq, rfl, rfl⟩
          obtain ⟨x, hx⟩ : ∃ x, (xs.take K)[q]? = some x := ⟨_, List.getElem?_eq_getElem (by rw [RK.out.1]; exact hq)⟩
          have hkey : (x.s, x.o, x.a) ∈ keyL (xs.take K) := List.mem_map.2 ⟨x, List.mem_of_getElem? hx, rfl⟩
          have KY := Mm.hid hkey
          obtain ⟨e0, e1, e2, e3, e4, e5⟩ := hcell q x hx
          obtain ⟨xd, xt, x1, x2, x3, xl⟩ := x
          simp only at e0 e1 e2 e3 e4 e5
          clear hcell hkey hx
          have BA := Mm.hid ((Below.refl wr.heap.size wr).alloc (Nat.le_refl _) (.cells #[.int .i64 2, .int .i64 tag, .int .i64 x1, .int .i64 x2, .int .i64 x3, .bool xl] 45))
          have XA := Mm.hid (Blk.new wr #[.int .i64 2, .int .i64 tag, .int .i64 x1, .int .i64 x2, .int .i64 x3, .bool xl] 45)
          have RB := Mm.hid (HR.out.2.2.1.below BA.out)
          have lenS := HR.out.2.1
          have htop : b + 2 + S.rows.length ≤ w2.heap.size := by rw [lenS]; exact hb2
          have HTOP := Mm.hid htop
          clear lenS htop
          go_wp2_with fail
          refine (put_any b m S tag x1 x2 x3 xl J _ (by exact RB.out.c) RB.out.r.ok RB.out.s (by omega)).mono ?_
          rintro e w6 ⟨rfl, hc6, hf6⟩
          have hXA : w6.heap[wr.heap.size]? = _ := hf6.block wr.heap.size (by simp) (fun h => by have := h.2; have := HTOP.out; omega)
          have X6 := Mm.hid (XA.out.keep hXA)
          have v0 : w6.cell? ⟨wr.heap.size, 0, none⟩ = some (.int .i64 2) := X6.out.cell 0
          have v1 : w6.cell? ⟨wr.heap.size, 1, none⟩ = some (.int .i64 tag) := X6.out.cell 1
          have v2 : w6.cell? ⟨wr.heap.size, 2, none⟩ = some (.int .i64 x1) := X6.out.cell 2
          have v3 : w6.cell? ⟨wr.heap.size, 3, none⟩ = some (.int .i64 x2) := X6.out.cell 3
          have v4 : w6.cell? ⟨wr.heap.size, 4, none⟩ = some (.int .i64 x3) := X6.out.cell 4
          have v5 : w6.cell? ⟨wr.heap.size, 5, none⟩ = some (.bool xl) := X6.out.cell 5
          have R6 := Mm.hid (RB.out.put ⟨2, tag, x1, x2, x3, xl⟩ rfl rfl KY.out hc6)
          have hs6 : wr.heap.size < w6.heap.size := by have := hf6.size; simp at this; omega
          have O6 : Hid (w6.ownsRow w2.heap.size 45 6 u15 k (ps.flatMap fA)) := hf6.own (HR.out.2.2.2.1.alloc _) fun g hg hin => by have := (HR.out.2.2.2.1.lt g hg).1; have := hin.2; have := HTOP.out; omega
          have B6 := Mm.hid (HR.out.2.2.2.2.trans ((BA.out.mono (by omega)).trans (hf6.below (B := b) (fun g hg => hg.1) (by simp; omega))))
          have hone : ∀ u ∈ (#[Value.int .i64 2, .int .i64 tag, .int .i64 x1, .int .i64 x2, .int .i64 x3, .bool xl] : Array Value).toList, u.oneCell' = true := by simp; exact ⟨rfl, rfl, rfl, rfl, rfl, rfl⟩
          have HO := Mm.hid hone
          have hs26 : w2.heap.size ≤ w6.heap.size := B6.out.size
          clear hc6 hf6 hXA hone XA
          go_wp2_with (at_builtin; go_must (refine wp_app1 w2.heap.size rfl _ _ 38 45 (.agg #[.int .i64 0, .int .i64 0, .int .i64 0, .int .i64 0, .int .i64 0, .bool false]) 6 48 #[.int .i64 2, .int .i64 tag, .int .i64 x1, .int .i64 x2, .int .i64 x3, .bool xl] rfl Try.underlying38 info45 rfl (by decide) (by decide) u15 k _ rfl rfl rfl HO.out (by exact O6.out) (Below.refl _ _) hs26 (by omega) ?_))
          intro vp w7 k1 k2 k3 k4
          have LP := Mm.hid (putS_len m S tag x1 x2 x3 xl)
          have K1 : Hid (w7.ownsRow w2.heap.size 45 6 vp (k + 1) ((ps ++ [(⟨2, tag, x1, x2, x3, xl⟩ : Ac)]).flatMap fA)) := by
            rw [List.flatMap_append]; exact k1
          have R7 : Hid (RW b m tag (keyL (xs.take K)) (ps ++ [(⟨2, tag, x1, x2, x3, xl⟩ : Ac)]) w7 (putS m S tag x1 x2 x3 xl) (k + 1) (J + 1)) :=
            RW.mk (R6.out.c.keepC (by have := R6.out.r.ok.1; exact this) (fun g hg => k3.block g (by have := hg.2; have := HTOP.out; have := LP.out; omega) (fun e => by
              have h1 := (HR.out.2.2.2.1.lt g e.symm).1
              have := hg.2; have := HTOP.out; have := LP.out; omega))) R6.out.r R6.out.s
          have B7 := Mm.hid (B6.out.trans ((Fr.grown k3).below (B := b) (fun g hg => by have := (HR.out.2.2.2.1.lt g hg).1; omega) (by omega)))
          have PL : Hid ((ps ++ [(⟨2, tag, x1, x2, x3, xl⟩ : Ac)]).length = k + 1) := by show _ = _; simp [HR.out.1]
          have RL : Hid ((putS m S tag x1 x2 x3 xl).rows.length = len) := by show _ = _; rw [LP.out]; exact HR.out.2.1
          obtain ⟨Ap, cp, hvp, hcp⟩ : ∃ A c, vp = .slice A (k + 1) c ∧ k + 1 ≤ c := by
            rcases k1.2 with ⟨_, h0⟩ | ⟨g, cap, cur, rfl, _, _, hnc, _⟩
            · omega
            · exact ⟨_, cap, rfl, hnc⟩
          subst hvp
          generalize (putS m S tag x1 x2 x3 xl) = S7 at *
          generalize (ps ++ [(⟨2, tag, x1, x2, x3, xl⟩ : Ac)]) = ps7 at *
          clear k1 k2 k3 k4 X6 v0 v1 v2 v3 v4 v5 R6 O6 B6 RB BA LP HTOP KY e0 e1 e2 e3 e4 e5 f2 HR
          go_wp2_with fail
          go_loopw [18] (fun i wr => ∃ (q J' : Nat) (S' : St), q ≤ k + 1 ∧ J' ≤ J + 1 + q ∧ i = .int .i64 (q : Nat) ∧ Hid (S'.rows.length = len ∧ RW b m tag (keyL (xs.take K)) ps7 wr S' (k + 1) J' ∧ wr.ownsRow w2.heap.size 45 6 (.slice Ap (k + 1) cp) (k + 1) (ps7.flatMap fA) ∧ Below b w2 wr)) (fun i _ => k + 1 - (intOf i).toNat)
          case atStart => exact ⟨0, J + 1, S7, Nat.zero_le _, by omega, rfl, RL.out, R7.out, K1.out, B7.out⟩
          case round =>
            obtain ⟨q2, J', S', hq2, hJ', rfl, HI⟩ := hrel
            clear R7 K1 B7 RL
            have hszi : w2.heap.size ≤ wr.heap.size := HI.out.2.2.2.size
            by_cases hlt2 : q2 < k + 1
            · have RA := Mm.hid (rdA_of PL.out (Rd.of_own HI.out.2.2.1))
              obtain ⟨adp, hAp, _, hcell⟩ := RA.out.2 (by omega)
              subst hAp
              obtain ⟨y, hy⟩ : ∃ y, ps7[q2]? = some y := ⟨_, List.getElem?_eq_getElem (by rw [PL.out]; exact hlt2)⟩
              obtain ⟨hd, -, -⟩ := HI.out.2.1.r.puts y (List.mem_of_getElem? hy)
              obtain ⟨z, hz, -, hz1, hz2, hz3⟩ := lastPut_mem (List.mem_of_getElem? hy) hd
              obtain ⟨e0, e1, e2, e3, e4, e5⟩ := hcell q2 y hy
              obtain ⟨yd, yt, y1, y2, y3, yl⟩ := y
              obtain ⟨zd, zt, z1, z2, z3, zl⟩ := z
              simp only at e0 e1 e2 e3 e4 e5 hz hz1 hz2 hz3
              subst hz1 hz2 hz3
              have HZ := Mm.hid hz
              clear hcell hy hz hd
              go_wp2_with fail
              refine (last_any (some adp) (k + 1) cp ps7 ⟨yd, yt, z1, z2, z3, yl⟩ _ (RA.out) (by omega)).mono ?_
              rintro e w8 ⟨he, hb8⟩
              simp only at he
              rw [HZ.out] at he
              simp only [aV, Option.getD_some, Option.isSome_some] at he
              subst he
              have B8 := Mm.hid hb8
              clear hb8
              have X8 := Mm.hid (Blk.new w8 #[.int .i64 zd, .int .i64 zt, .int .i64 z1, .int .i64 z2, .int .i64 z3, .bool zl] 45)
              have BA := Mm.hid ((Below.refl w8.heap.size w8).alloc (Nat.le_refl _) (.cells #[.int .i64 zd, .int .i64 zt, .int .i64 z1, .int .i64 z2, .int .i64 z3, .bool zl] 45))
              have B9 := Mm.hid (B8.out.trans (BA.out.mono B8.out.size))
              have R9 := Mm.hid (HI.out.2.1.below B9.out)
              have TO := Mm.hid (R9.out.r.get HZ.out).1
              have htop : b + 2 + S'.rows.length ≤ w2.heap.size := by rw [HI.out.1]; exact hb2
              have HT := Mm.hid htop
              have LG := Mm.hid (getS_len S' tag z1 z2 z3)
              have h8 : wr.heap.size ≤ w8.heap.size := B8.out.size
              clear htop
              go_wp2_with fail
              refine (get_any b m S' tag z1 z2 z3 J' _ (by exact R9.out.c) R9.out.r.ok R9.out.s (by omega)).mono ?_
              rintro e w10 ⟨rfl, hc, hf⟩
              rw [TO.out]
              have v5 : w10.cell? ⟨w8.heap.size, 5, none⟩ = some (.bool zl) := (X8.out.keep (hf.block w8.heap.size (by simp) (fun h => by have := h.2; have := HT.out; omega))).cell 5
              have R10 := Mm.hid (R9.out.get HZ.out hc)
              have O10 : Hid (w10.ownsRow w2.heap.size 45 6 (.slice (some adp) (k + 1) cp) (k + 1) (ps7.flatMap fA)) := hf.own ((Fr.of_below B9.out).own HI.out.2.2.1 fun _ _ h => h) fun g hg hin => by have := (HI.out.2.2.1.lt g hg).1; have := hin.2; have := HT.out; omega
              have B10 := Mm.hid (HI.out.2.2.2.trans ((B9.out.mono (by omega)).trans (hf.below (B := b) (fun g hg => hg.1) (by simp; omega))))
              have L10 : Hid ((getS S' tag z1 z2 z3).2.rows.length = len) := by show _ = _; rw [LG.out]; exact HI.out.1
              clear hc hf e0 e1 e2 e3 e4 e5
              cases zl
              all_goals
                go_wp2
                go_roundw
                case rel => exact ⟨q2 + 1, J' + 1, _, by omega, by omega, by go_num, L10.out, R10.out, O10.out, B10.out⟩
                case measure => simp [intOf] <;> omega
            · have hqk : q2 = k + 1 := by omega
              subst hqk
              go_wp2
              go_roundw
              case rel => exact ⟨k + 1, J', ps7, S', by omega, by omega, by go_num, PL.out, HI.out.1, HI.out.2.1, HI.out.2.2.1, HI.out.2.2.2⟩
              case measure => simp [intOf] <;> omega
        · have hK : K = 0 := by omega
          subst hK
          go_wp2_with fail
          refine (stats_any _ HR.out.2.2.1.c).mono ?_
          rintro e w5 ⟨rfl, hb⟩
          have B5 := Mm.hid (BW.out.trans (hb.mono BW.out.size))
          clear hb
          rw [HR.out.2.2.1.r.ev, HR.out.2.2.1.r.misses]
          go_wp2
          go_ret
          exact ⟨rfl, B5.out.alloc B5.out.size _⟩
      · go_wp2_with fail
        refine (stats_any _ HR.out.2.2.1.c).mono ?_
        rintro e w5 ⟨rfl, hb⟩
        have B5 := Mm.hid (BW.out.trans (hb.mono BW.out.size))
        clear hb
        rw [HR.out.2.2.1.r.ev, HR.out.2.2.1.r.misses]
        go_wp2
        go_ret
        exact ⟨rfl, B5.out.alloc B5.out.size _⟩
end Go.Proofs.Ythojgfnaanckeaa

/- Walk: the law CellsReplay. -/
import Derived.Test.YtkbobgblohohcaaOne
import Derived.Test.YtkbobgblohohcaaRep
import Derived.Test.YtkbobgblohohcaaSame
import Derived.Test.YtkbobgblohohcaaPieces
namespace Go.Proofs.Ytkbobgblohohcaa
open Go.RowKit Go.Mm Go.Cells
section
variable {base g : Nat} {w0 w w' : World} {G : Nat → Prop} {K : World → Prop} {S S' : Cm}
theorem HasG.on (h : HasG base g w0 G S w) (hb : Below w.heap.size w w') : HasG base g w0 G S w' := by
  obtain ⟨F, h1, h2, h3⟩ := h.out
  have hle : base ≤ w.heap.size := by have := h1.lt g h1.fg; omega
  exact ⟨F, h1.below hb, h2.trans (hb.mono hle), fun k hk => ⟨Nat.lt_of_lt_of_le (h3 k hk).1 hb.size, (h3 k hk).2⟩⟩
theorem Has.beside (h : Has base g w0 K S w) (o : Obj) : HasG base g w0 (fun k => k = w.heap.size) S (w.alloc o) := by
  obtain ⟨F, _, h1, h2, _⟩ := h.out
  refine ⟨F, h1.below ((Below.refl _ _).alloc (Nat.le_refl _) o), h2.alloc h.le o, fun k hk => ?_⟩
  subst hk
  exact ⟨by simp, fun hF => by have := (h1.lt _ hF).2; omega⟩
theorem HasG.below (h : HasG base g w0 G S w) : Below base w0 w := by
  obtain ⟨_, _, h, _⟩ := h.out
  exact h
end
def RS (n k : Nat) (S : Cm) : Prop := Rp n S ∧ S.tr.length ≤ 3 + k ∧ S.bad ≤ k
theorem RS.made {n : Nat} (h : 1 ≤ n) : RS n 0 (Cm.made n) := ⟨Rp.made h, Nat.le_refl _, Nat.le_refl _⟩
theorem RS.step {n k : Nat} {S S' : Cm} (h : RS n k S) (h1 : Rp n S') (h2 : S'.tr.length = S.tr.length + 1 ∧ S'.bad ≤ S.bad + 1 ∧ S'.ws.length = S.ws.length) : RS n (k + 1) S' := ⟨h1, by have := h.2.1; omega, by have := h.2.2; omega⟩
set_option maxRecDepth 100000 in
set_option maxHeartbeats 4000000 in
theorem law_replay (x : Int) (A : Option Addr) (N c : Nat) (xs : List Stp) (w : World) (_ : (Lit.int .i64 x).wf = true) (h : Sl w 9 72 fX gX A N c xs) :
    Calls Try.prog 9 #[.int .i64 x, .slice A N c] w fun e w' => e = .returned (.bool true) ∧ Below w.heap.size w w' := by
  have R := Mm.hid h.rd
  have LN := Mm.hid h.len
  have hcap : N ≤ c := h.cap
  have hroom : N ≤ 1954687338220 := by have := h.room; omega
  clear h
  go_enter Try.func9, Try.ntmps9
  go_wp2_with fail
  refine (made_any x _).mono ?_
  rintro e w2 ⟨g, n, F, hn1, hn2, rfl, M⟩
  have H1 : Hid (∃ S, Has w.heap.size g w (fun _ => True) S w2 ∧ RS n 0 S) := ⟨_, Has.made M, RS.made hn1⟩
  clear M F
  go_wp2_with fail
  go_loopw [7, 8] (fun i _ wr => ∃ k : Nat, k ≤ N ∧ i = .int .i64 (k : Nat) ∧ Hid (∃ S, Has w.heap.size g w (fun _ => True) S wr ∧ RS n k S)) (fun i _ _ => N - (intOf i).toNat)
  case atStart => exact ⟨0, Nat.zero_le _, rfl, H1.out⟩
  case round =>
    obtain ⟨k, hk, rfl, HK⟩ := hrel
    clear H1
    obtain ⟨S, h1, h2⟩ := HK.out
    have H := Mm.hid h1
    have MD := Mm.hid h2
    have BW := Mm.hid h1.below
    clear h1 h2 HK
    by_cases hlt : k < N
    · obtain ⟨q, hq⟩ : ∃ q, xs[k]? = some q := ⟨_, List.getElem?_eq_getElem (by rw [LN.out]; exact hlt)⟩
      obtain ⟨ad, rfl, _, f0, f1, f2, f3, f4, f5, f6, f7, f8⟩ := rd_stp (R.out.below BW.out) LN.out hq
      clear hq
      obtain ⟨qd, qa, qb, qc, ⟨xk, xa, xv, xo, xg⟩⟩ := q
      simp only at f0 f1 f2 f3 f4 f5 f6 f7 f8
      have N9 := Mm.hid (Blk.new wr #[.int .i64 qd, .int .i64 qa, .int .i64 qb, .int .i64 qc, .int .i8 xk, .int .i64 xa, .int .i64 xv, .int .i64 xo, .bool xg] 49)
      have H9 := Mm.hid (H.out.on ((Below.refl wr.heap.size wr).alloc (Nat.le_refl _) (.cells #[.int .i64 qd, .int .i64 qa, .int .i64 qb, .int .i64 qc, .int .i8 xk, .int .i64 xa, .int .i64 xv, .int .i64 xo, .bool xg] 49)))
      have c0 := N9.out.cell 0
      have c1 := N9.out.cell 1
      have c2 := N9.out.cell 2
      have c3 := N9.out.cell 3
      simp only [List.getElem?_toArray, List.getElem?_cons_zero, List.getElem?_cons_succ] at c0 c1 c2 c3
      obtain ⟨⟨l1, l2, l3⟩, ⟨s1, s2, s3⟩, ⟨p1, p2, p3⟩, a1, a2, a3⟩ := op_le S qa qb qc
      have LL : Hid (RS n (k + 1) (S.load qa) ∧ RS n (k + 1) (S.store qa qb) ∧ RS n (k + 1) (S.swap qa qb qc) ∧ RS n (k + 1) (S.add qa qb) ∧ RS n (k + 1) S) := ⟨MD.out.step (MD.out.1.load _) ⟨l1, l2, l3⟩, MD.out.step (MD.out.1.store _ _) ⟨s1, s2, s3⟩, MD.out.step (MD.out.1.swap _ _ _) ⟨p1, p2, p3⟩, MD.out.step (MD.out.1.add _ _) ⟨a1, a2, a3⟩, MD.out.1, by have := MD.out.2.1; omega, by have := MD.out.2.2; omega⟩
      have BB : Hid (S.bad ≤ 4611686018427387904 ∧ (S.tr.length + 1) * 40 ≤ 140737488355328) := ⟨by have := MD.out.2.2; omega, by have := MD.out.2.1; omega⟩
      clear l1 l2 l3 s1 s2 s3 p1 p2 p3 a1 a2 a3
      by_cases e1 : qd = 1
      · subst e1
        go_wp2_with fail
        refine (H9.out.load qa BB.out.1 BB.out.2).mono ?_
        rintro e w3 ⟨rfl, h3⟩
        have H3 : Hid (∃ S, Has w.heap.size g w (fun _ => True) S w3 ∧ RS n (k + 1) S) := ⟨_, h3, LL.out.1⟩
        clear h3 f0 f1 f2 f3 f4 f5 f6 f7 f8 c0 c1 c2 c3
        go_wp2
        go_roundw
        case rel => exact ⟨k + 1, by omega, by go_num, H3.out⟩
        case measure => simp [intOf] <;> omega
      by_cases e2 : qd = 2
      · subst e2
        go_wp2_with fail
        refine (H9.out.store qa qb BB.out.1 BB.out.2).mono ?_
        rintro e w3 ⟨rfl, h3⟩
        have H3 : Hid (∃ S, Has w.heap.size g w (fun _ => True) S w3 ∧ RS n (k + 1) S) := ⟨_, h3, LL.out.2.1⟩
        clear h3 f0 f1 f2 f3 f4 f5 f6 f7 f8 c0 c1 c2 c3
        go_wp2
        go_roundw
        case rel => exact ⟨k + 1, by omega, by go_num, H3.out⟩
        case measure => simp [intOf] <;> omega
      by_cases e3 : qd = 3
      · subst e3
        go_wp2_with fail
        refine (H9.out.swap qa qb qc BB.out.1 BB.out.2).mono ?_
        rintro e w3 ⟨rfl, h3⟩
        have H3 : Hid (∃ S, Has w.heap.size g w (fun _ => True) S w3 ∧ RS n (k + 1) S) := ⟨_, h3, LL.out.2.2.1⟩
        clear h3 f0 f1 f2 f3 f4 f5 f6 f7 f8 c0 c1 c2 c3
        go_wp2
        go_roundw
        case rel => exact ⟨k + 1, by omega, by go_num, H3.out⟩
        case measure => simp [intOf] <;> omega
      by_cases e4 : qd = 4
      · subst e4
        go_wp2_with fail
        refine (H9.out.add qa qb BB.out.1 BB.out.2).mono ?_
        rintro e w3 ⟨rfl, h3⟩
        have H3 : Hid (∃ S, Has w.heap.size g w (fun _ => True) S w3 ∧ RS n (k + 1) S) := ⟨_, h3, LL.out.2.2.2.1⟩
        clear h3 f0 f1 f2 f3 f4 f5 f6 f7 f8 c0 c1 c2 c3
        go_wp2
        go_roundw
        case rel => exact ⟨k + 1, by omega, by go_num, H3.out⟩
        case measure => simp [intOf] <;> omega
      have b1 : (qd == 1) = false := beq_eq_false_iff_ne.2 e1
      have b2 : (qd == 2) = false := beq_eq_false_iff_ne.2 e2
      have b3 : (qd == 3) = false := beq_eq_false_iff_ne.2 e3
      have b4 : (qd == 4) = false := beq_eq_false_iff_ne.2 e4
      clear e1 e2 e3 e4
      have H3 : Hid (∃ S', Has w.heap.size g w (fun _ => True) S' (wr.alloc (.cells #[.int .i64 qd, .int .i64 qa, .int .i64 qb, .int .i64 qc, .int .i8 xk, .int .i64 xa, .int .i64 xv, .int .i64 xo, .bool xg] 49)) ∧ RS n (k + 1) S') := ⟨_, H9.out, LL.out.2.2.2.2⟩
      go_wp2
      go_roundw
      case rel => exact ⟨k + 1, by omega, by go_num, H3.out⟩
      case measure => simp [intOf] <;> omega
    · have hmk := run_make_flat (P := Try.prog) (fun x : Int => [Value.int .i64 x]) 0 Try.underlying30 info3 rfl (by decide) rfl n (by omega) (by omega) wr
      rw [iL_flat] at hmk
      have O0 : Hid ((wr.alloc (.cells (iL (List.replicate n 0)).toArray 3)).ownsRow w.heap.size 3 1 (.slice (some ⟨wr.heap.size, 0, none⟩) n n) n (iL (List.replicate n 0))) :=
        own_made H.out.le (by rw [iL_len]; simp) (by simp only [maxLen]; omega)
      have H4 := Mm.hid (H.out.beside (.cells (iL (List.replicate n 0)).toArray 3))
      generalize hcs : (iL (List.replicate n 0)).toArray = cs at *
      obtain ⟨T, hT⟩ : ∃ T, S.tr.length = T := ⟨_, rfl⟩
      have TT := Mm.hid hT
      have hT1 : T ≤ 3 + k := by rw [← hT]; exact MD.out.2.1
      have RP := Mm.hid MD.out.1
      clear hcs hT MD H BW
      go_wp2_with fail
      clear hmk
      generalize wr.heap.size = gl at *
      generalize wr.alloc (.cells cs 3) = w4 at *
      obtain ⟨F4, _, f41, _⟩ := (H4.out.has (K := fun _ => True) fun _ _ _ => trivial).out
      refine (trace_any _ g F4 S _ f41 (by rw [TT.out]; omega)).mono ?_
      rintro e w5 ⟨A5, m5, c5, rfl, hc5, O5⟩
      obtain rfl : m5 = T := by rw [← O5.out.1]; exact TT.out
      obtain ⟨_, _, hv, _, hob, hR5⟩ := own_slice O5.out.2.1
      injection hv with hv1 _ hv3
      subst hv1
      subst hv3
      have hgl : gl < w4.heap.size := by
        obtain ⟨_, _, hv, _, _, h, _⟩ := own_blk O0.out (by omega)
        injection hv with e1 _ _
        injection e1 with e1
        injection e1 with e1
        rw [e1]; exact h
      have hgl2 : w.heap.size ≤ gl := by
        obtain ⟨_, _, hv, _, h, _⟩ := own_blk O0.out (by omega)
        injection hv with e1 _ _
        injection e1 with e1
        injection e1 with e1
        rw [e1]; exact h
      have NE : Hid (∀ ad, A5 = some ad → ad.block ≠ gl) := fun ad hA => by have := (own_lt O5.out.2.1 (hob ad hA)).1; omega
      have R5 := Mm.hid hR5
      have H5 := Mm.hid (H4.out.on O5.out.2.2)
      have O1 := Mm.hid ((Fr.of_below O5.out.2.2).own O0.out fun _ _ h => h)
      clear O5 hob hR5 f41 H4 O0
      go_wp2_with fail
      go_loopw [11, 12, 13] (fun i _ _ wr => ∃ k : Nat, k ≤ m5 ∧ i = .int .i64 (k : Nat) ∧ Hid (HasG w.heap.size g w (fun k => k = gl) S wr ∧ wr.ownsRow w.heap.size 3 1 (.slice (some ⟨gl, 0, none⟩) n n) n (iL ((S.tr.take k).foldl made1 (List.replicate n 0))) ∧ Rd wr A5 m5 5 (S.tr.flatMap fAcc))) (fun i _ _ _ => m5 - (intOf i).toNat)
      case atStart => exact ⟨0, Nat.zero_le _, rfl, H5.out, by simpa using O1.out, R5.out⟩
      case round =>
        obtain ⟨k, hk, rfl, HK⟩ := hrel
        clear O1 R5 H5
        by_cases hlt : k < m5
        · obtain ⟨x, hx⟩ : ∃ x, S.tr[k]? = some x := ⟨_, List.getElem?_eq_getElem (by rw [TT.out]; exact hlt)⟩
          obtain ⟨ad, hA5, _, f0, f1, f2, f3, f4⟩ := rd_acc HK.out.2.2 TT.out hx
          obtain ⟨TD, ND⟩ := RP.out.at hx
          have LL := own_len HK.out.2.1
          rw [iL_len] at LL
          generalize hLf : (S.tr.take k).foldl made1 (List.replicate n 0) = L at *
          obtain ⟨xk, xa, xv, xo, xg⟩ := x
          simp only at f0 f1 f2 f3 f4
          obtain ⟨td1, td2, td3⟩ := TD
          simp only at td1 td2 td3
          have hgw : gl < wr.heap.size := by obtain ⟨_, _, _, h⟩ := HK.out.1.out; exact (h gl rfl).1
          have HGW := Mm.hid hgw
          clear hgw
          have BA := (Below.refl wr.heap.size wr).alloc (Nat.le_refl _) (.cells #[.int .i8 xk, .int .i64 xa, .int .i64 xv, .int .i64 xo, .bool xg] 47)
          have X5 := Mm.hid (Blk.new wr #[.int .i8 xk, .int .i64 xa, .int .i64 xv, .int .i64 xo, .bool xg] 47)
          have H6 := Mm.hid (HK.out.1.on BA)
          have O6 := Mm.hid ((Fr.of_below BA).own HK.out.2.1 fun _ _ h => h)
          have R6 := Mm.hid (HK.out.2.2.below BA)
          have c0 := X5.out.cell 0
          have c1 := X5.out.cell 1
          have c2 := X5.out.cell 2
          have c3 := X5.out.cell 3
          have c4 := X5.out.cell 4
          simp only [List.getElem?_toArray, List.getElem?_cons_zero, List.getElem?_cons_succ] at c0 c1 c2 c3 c4
          have KEEP : Hid (made1 L ⟨xk, xa, xv, xo, xg⟩ = L → HasG w.heap.size g w (fun k => k = gl) S (wr.alloc (.cells #[.int .i8 xk, .int .i64 xa, .int .i64 xv, .int .i64 xo, .bool xg] 47)) ∧ (wr.alloc (.cells #[.int .i8 xk, .int .i64 xa, .int .i64 xv, .int .i64 xo, .bool xg] 47)).ownsRow w.heap.size 3 1 (.slice (some ⟨gl, 0, none⟩) n n) n (iL ((S.tr.take (k + 1)).foldl made1 (List.replicate n 0))) ∧ Rd (wr.alloc (.cells #[.int .i8 xk, .int .i64 xa, .int .i64 xv, .int .i64 xo, .bool xg] 47)) A5 m5 5 (S.tr.flatMap fAcc)) := fun e => by
            rw [ND, e]
            exact ⟨H6.out, O6.out, R6.out⟩
          have SETS : Hid (∀ (i : Nat) (y : Int), made1 L ⟨xk, xa, xv, xo, xg⟩ = L.set i y → HasG w.heap.size g w (fun k => k = gl) S ((wr.alloc (.cells #[.int .i8 xk, .int .i64 xa, .int .i64 xv, .int .i64 xo, .bool xg] 47)).setCell ⟨gl, i, none⟩ (.int .i64 y)) ∧ ((wr.alloc (.cells #[.int .i8 xk, .int .i64 xa, .int .i64 xv, .int .i64 xo, .bool xg] 47)).setCell ⟨gl, i, none⟩ (.int .i64 y)).ownsRow w.heap.size 3 1 (.slice (some ⟨gl, 0, none⟩) n n) n (iL ((S.tr.take (k + 1)).foldl made1 (List.replicate n 0))) ∧ Rd ((wr.alloc (.cells #[.int .i8 xk, .int .i64 xa, .int .i64 xv, .int .i64 xo, .bool xg] 47)).setCell ⟨gl, i, none⟩ (.int .i64 y)) A5 m5 5 (S.tr.flatMap fAcc)) := fun i y e => by
            have hs := Fr.setCell (wr.alloc (.cells #[.int .i8 xk, .int .i64 xa, .int .i64 xv, .int .i64 xo, .bool xg] 47)) ⟨gl, i, none⟩ (.int .i64 y)
            refine ⟨H6.out.write hs fun k (hk : k = gl) => ⟨hk, by omega⟩, ?_, hs.rd R6.out fun ad hA (he : ad.block = gl) => NE.out ad hA he⟩
            rw [ND, e, ← iL_set]
            exact own_set O6.out i (.int .i64 y)
          obtain ⟨_, _, hvv, _, _, _, hcell, hfree⟩ := own_blk O6.out (by omega)
          injection hvv with e1 _ _
          injection e1 with e1
          injection e1 with e1
          subst e1
          have HC := Mm.hid hcell
          have HF := Mm.hid hfree
          subst hA5
          clear HK BA hx ND hcell hfree hLf
          by_cases hin : 0 ≤ xa ∧ xa < (n : Int)
          · obtain ⟨i, rfl⟩ := Int.eq_ofNat_of_zero_le hin.1
            have hi : i < n := by omega
            obtain ⟨y, hy⟩ : ∃ y, L[i]? = some y := ⟨_, List.getElem?_eq_getElem (by omega)⟩
            have e0 : stood L (i : Int) = y := by
              unfold stood
              rw [if_pos ⟨by omega, by omega⟩, Int.toNat_natCast, getD_of hy]
            rw [e0] at td1 td2
            have g1 := HC.out i _ (iL_get hy)
            have g2 := HF.out i
            have E0 := Mm.hid e0
            clear hin hy td3 e0
            cases xg
            · by_cases k1 : xk = 1
              · have hv := td1 k1
                subst hv
                subst k1
                clear td1 td2
                have FIN := Mm.hid (KEEP.out (by unfold made1; simp))
                clear KEEP SETS
                clear HC HF RP
                go_wp2
                go_roundw
                case rel => exact ⟨k + 1, by omega, by go_num, FIN.out⟩
                case measure => simp [intOf] <;> omega
              · have hv := td2 k1
                subst hv
                have b1 : (xk == 1) = false := beq_eq_false_iff_ne.2 k1
                have b1n : (xk != 1) = true := by rw [bne, b1]; rfl
                clear td1 td2 k1
                have FIN := Mm.hid (KEEP.out (by unfold made1; simp))
                clear KEEP SETS
                clear HC HF RP
                go_wp2
                go_roundw
                case rel => exact ⟨k + 1, by omega, by go_num, FIN.out⟩
                case measure => simp [intOf] <;> omega
            · by_cases k1 : xk = 1
              · have hv := td1 k1
                subst hv
                subst k1
                clear td1 td2
                have FIN := Mm.hid (KEEP.out (by unfold made1; simp))
                clear KEEP SETS
                clear HC HF RP
                have d1 : decide ((i : Int) < 0) = false := decide_eq_false (by omega)
                have d2 : decide ((n : Int) ≤ (i : Int)) = false := decide_eq_false (by omega)
                go_wp2
                go_roundw
                case rel => exact ⟨k + 1, by omega, by go_num, FIN.out⟩
                case measure => simp [intOf] <;> omega
              · have hv := td2 k1
                subst hv
                have b1 : (xk == 1) = false := beq_eq_false_iff_ne.2 k1
                have b1n : (xk != 1) = true := by rw [bne, b1]; rfl
                clear td1 td2 k1
                by_cases k4 : xk = 4
                · subst k4
                  have FIN := Mm.hid (SETS.out i (wrap64 (xo + xv)) (by unfold made1; simp [E0.out]))
                  clear KEEP SETS
                  clear HC HF RP
                  have d1 : decide ((i : Int) < 0) = false := decide_eq_false (by omega)
                  have d2 : decide ((n : Int) ≤ (i : Int)) = false := decide_eq_false (by omega)
                  have X7 := (Fr.setCell (wr.alloc (.cells #[.int .i8 4, .int .i64 (i : Int), .int .i64 xv, .int .i64 xo, .bool true] 47)) ⟨gl, i, none⟩ (.int .i64 (wrap64 (xo + xv)))).blk X5.out (fun (e : wr.heap.size = gl) => by have := HGW.out; omega)
                  have m0 := X7.cell 0
                  have m4 := X7.cell 4
                  simp only [List.getElem?_toArray, List.getElem?_cons_zero, List.getElem?_cons_succ] at m0 m4
                  clear X7
                  go_wp2
                  go_roundw
                  case rel => exact ⟨k + 1, by omega, by go_num, FIN.out⟩
                  case measure => simp [intOf] <;> omega
                · by_cases k2 : xk = 2
                  · subst k2
                    have FIN := Mm.hid (SETS.out i (xv) (by unfold made1; simp))
                    clear KEEP SETS
                    clear HC HF RP
                    have d1 : decide ((i : Int) < 0) = false := decide_eq_false (by omega)
                    have d2 : decide ((n : Int) ≤ (i : Int)) = false := decide_eq_false (by omega)
                    go_wp2
                    go_roundw
                    case rel => exact ⟨k + 1, by omega, by go_num, FIN.out⟩
                    case measure => simp [intOf] <;> omega
                  · by_cases k3 : xk = 3
                    · subst k3
                      have FIN := Mm.hid (SETS.out i (xv) (by unfold made1; simp))
                      clear KEEP SETS
                      clear HC HF RP
                      have d1 : decide ((i : Int) < 0) = false := decide_eq_false (by omega)
                      have d2 : decide ((n : Int) ≤ (i : Int)) = false := decide_eq_false (by omega)
                      go_wp2
                      go_roundw
                      case rel => exact ⟨k + 1, by omega, by go_num, FIN.out⟩
                      case measure => simp [intOf] <;> omega
                    · have b2 : (xk == 2) = false := beq_eq_false_iff_ne.2 k2
                      have b3 : (xk == 3) = false := beq_eq_false_iff_ne.2 k3
                      have b4 : (xk == 4) = false := beq_eq_false_iff_ne.2 k4
                      have FIN := Mm.hid (KEEP.out (by unfold made1; simp [k2, k3, k4]))
                      clear KEEP SETS k2 k3 k4
                      clear HC HF RP
                      have d1 : decide ((i : Int) < 0) = false := decide_eq_false (by omega)
                      have d2 : decide ((n : Int) ≤ (i : Int)) = false := decide_eq_false (by omega)
                      go_wp2
                      go_roundw
                      case rel => exact ⟨k + 1, by omega, by go_num, FIN.out⟩
                      case measure => simp [intOf] <;> omega
          · have e0 : stood L xa = 0 := by
              unfold stood
              rw [LL, if_neg hin]
            rw [e0] at td1 td2
            have hg : xg = false := by
              cases xg
              · rfl
              · exact absurd (td3 rfl) (by rw [LL]; exact hin)
            subst hg
            clear td3 e0
            have FIN := Mm.hid (KEEP.out (by unfold made1; simp))
            clear KEEP SETS
            by_cases hneg : xa < 0
            · clear hin
              by_cases k1 : xk = 1
              · have hv := td1 k1
                subst hv
                subst k1
                clear td1 td2
                clear HC HF RP
                have d1 : decide (0 ≤ xa) = false := decide_eq_false (by omega)
                go_wp2
                go_roundw
                case rel => exact ⟨k + 1, by omega, by go_num, FIN.out⟩
                case measure => simp [intOf] <;> omega
              · have hv := td2 k1
                subst hv
                have b1 : (xk == 1) = false := beq_eq_false_iff_ne.2 k1
                have b1n : (xk != 1) = true := by rw [bne, b1]; rfl
                clear td1 td2 k1
                clear HC HF RP
                have d1 : decide (0 ≤ xa) = false := decide_eq_false (by omega)
                go_wp2
                go_roundw
                case rel => exact ⟨k + 1, by omega, by go_num, FIN.out⟩
                case measure => simp [intOf] <;> omega
            · have hge : (n : Int) ≤ xa := by omega
              clear hin
              by_cases k1 : xk = 1
              · have hv := td1 k1
                subst hv
                subst k1
                clear td1 td2
                clear HC HF RP
                have d1 : decide (0 ≤ xa) = true := decide_eq_true (by omega)
                have d2 : decide (xa < (n : Int)) = false := decide_eq_false (by omega)
                go_wp2
                go_roundw
                case rel => exact ⟨k + 1, by omega, by go_num, FIN.out⟩
                case measure => simp [intOf] <;> omega
              · have hv := td2 k1
                subst hv
                have b1 : (xk == 1) = false := beq_eq_false_iff_ne.2 k1
                have b1n : (xk != 1) = true := by rw [bne, b1]; rfl
                clear td1 td2 k1
                clear HC HF RP
                have d1 : decide (0 ≤ xa) = true := decide_eq_true (by omega)
                have d2 : decide (xa < (n : Int)) = false := decide_eq_false (by omega)
                go_wp2
                go_roundw
                case rel => exact ⟨k + 1, by omega, by go_num, FIN.out⟩
                case measure => simp [intOf] <;> omega
        · have hkm : k = m5 := by omega
          subst hkm
          have FULL : Hid ((S.tr.take k).foldl made1 (List.replicate n 0) = S.ws) := by
            show _ = _
            rw [List.take_of_length_le (by rw [TT.out]; exact Nat.le_refl _)]
            exact RP.out.1
          have OW := Mm.hid HK.out.2.1
          rw [FULL.out] at OW
          have H6 := Mm.hid (HK.out.1.has (K := fun w' => Rd w' (some ⟨gl, 0, none⟩) n 1 (iL S.ws)) fun w2 hs hk => rd_of OW.out hs fun b hb => hk b (by simpa [Value.ownBlock, eq_comm] using hb))
          have WA := Mm.hid (words_all (S := S) RP.out.len)
          have LW := Mm.hid RP.out.len
          clear HK OW FULL
          go_wp2_with fail
          refine (H6.out.words 0 n (by omega)).mono ?_
          rintro e w7 ⟨A7, m7, c7, rfl, hc7, H7⟩
          rw [WA.out.2]
          rw [WA.out.1] at H7
          obtain rfl : m7 = n := by rw [← H7.out.1]; exact LW.out
          have KP := Mm.hid H7.out.2.keeps
          have BW := Mm.hid H7.out.2.below
          clear H6 H7
          go_wp2_with fail
          refine (same_any A7 m7 c7 (some ⟨gl, 0, none⟩) m7 m7 S.ws S.ws _ KP.out.2 KP.out.1 hc7 (Nat.le_refl _) (by omega)).mono ?_
          rintro e w8 ⟨rfl, d, rfl⟩
          have hd : decide (S.ws = S.ws) = true := decide_eq_true rfl
          rw [hd]
          clear hd
          go_wp2
          go_ret
          exact ⟨rfl, BW.out.os, BW.out.tape, BW.out.output, BW.out.size, BW.out.block⟩
end Go.Proofs.Ytkbobgblohohcaa

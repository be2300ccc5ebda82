/- The orders of a list: one after another; and the walk of the closure that goes over them. -/
import Derived.Test.YtecppnkfnppmoaaRev
import Derived.Test.YtecppnkfnppmoaaRfl
import Derived.Shelf.Abstract
import Derived.Shelf.RegionOpen
import Derived.OwnWalkIn
import Derived.TacticsInMore
import Derived.LoopNIn
import Derived.LoopIn
import Derived.ArgAppend
namespace Go.Sched
/-- the last place at which a list rises, at a place below a number -/
def scanK (L : List Int) : Nat → Option Nat
  | 0 => none
  | k + 1 => if (L[k]?).getD 0 < (L[k + 1]?).getD 0 then some k else scanK L k
/-- the last thing that is greater, up to a place -/
def scanJ (L : List Int) (v : Int) : Nat → Nat
  | 0 => 0
  | j + 1 => if (L[j + 1]?).getD 0 ≤ v then scanJ L v j else j + 1
/-- the next order -/
def nxt (L : List Int) : Option (List Int) := (scanK L (L.length - 1)).map fun k =>
  let M := sw L k (scanJ L ((L[k]?).getD 0) (L.length - 1))
  M.take (k + 1) ++ (M.drop (k + 1)).reverse
def ordN (L : List Int) : Nat → Option (List Int)
  | 0 => some L
  | i + 1 => (ordN L i).bind nxt
theorem scanK_lt {L : List Int} : ∀ {q k : Nat}, scanK L q = some k → k < q ∧ (L[k]?).getD 0 < (L[k + 1]?).getD 0
  | 0, k, h => by cases h
  | q + 1, k, h => by
    unfold scanK at h
    split at h
    · rename_i hl
      injection h with h
      subst h
      exact ⟨by omega, hl⟩
    · obtain ⟨h1, h2⟩ := scanK_lt h
      exact ⟨by omega, h2⟩
theorem scanJ_le (L : List Int) (v : Int) : ∀ q, scanJ L v q ≤ q
  | 0 => Nat.le_refl _
  | q + 1 => by
    unfold scanJ
    split
    · have := scanJ_le L v q; omega
    · exact Nat.le_refl _
theorem nxt_len {L M : List Int} (h : nxt L = some M) : M.length = L.length := by
  unfold nxt at h
  rw [Option.map_eq_some_iff] at h
  obtain ⟨k, _, rfl⟩ := h
  simp only [List.length_append, List.length_reverse, List.length_take, List.length_drop, sw_len]
  omega
theorem ordN_len {L : List Int} : ∀ {i : Nat} {M : List Int}, ordN L i = some M → M.length = L.length
  | 0, M, h => by injection h with h; rw [h]
  | i + 1, M, h => by
    obtain ⟨M', h1, h2⟩ := Option.bind_eq_some_iff.1 (show (ordN L i).bind nxt = some M from h)
    rw [nxt_len h2, ordN_len h1]
theorem nxt_of {L : List Int} {k j m : Nat} {x : Int} (hl : L.length = m) (h1 : scanK L (m - 1) = some k) (h2 : L[k]? = some x) (h3 : scanJ L x (m - 1) = j) : nxt L = some ((sw L k j).take (k + 1) ++ ((sw L k j).drop (k + 1)).reverse) := by
  subst hl
  subst h3
  unfold nxt
  rw [h1]
  simp only [Option.map_some, h2, Option.getD_some]
end Go.Sched
namespace Go.Proofs.Ytecppnkfnppmoaa
open Go.RowKit Go.Mm Go.Sched
attribute [local go_sem] Oper.semAt_some
section
variable {P : Program} {ops : Array Oper} {rest : List Oper} {o : Oper} {a : Act} {Q : Exit → Act → World → Prop}
/-- 'append(v, ys...)': as wp_ape, of a list that is there; where the row moves it is the next block -/
theorem wp_apx {w0 W : World} (base : Nat) (hgd : o.guard = none) (s x : Operand) (t e : TypeId) (z : Value) (size bytes : Nat)
    (ho : o.op = .call { callee := .builtin .append, args := #[s, x], argTypes := #[t, t] })
    (ht : P.underlying t = some (.slice e)) (hinfo : (P.info? e).map (fun i => (i.zero, i.size, i.bytes)) = some (some z, size, bytes)) (hzs : z.cells.size = size) (hsz : 0 < size) (hb0 : 0 < bytes)
    (v : Value) (n : Nat) (xs : List Value) (ad : Addr) (m c : Nat) (news : List Value) (hs : a.eval s = v) (hx : a.eval x = .slice (some ad) m c)
    (HR : Rd W (some ad) m size news) (h1 : ∀ u ∈ news, u.oneCell' = true)
    (HO : W.ownsRow base e size v n xs) (HB : Below base w0 W) (hbase : base ≤ W.heap.size) (hl : (n + m) * bytes ≤ 140737488355328)
    (h : ∀ v1 w1, w1.ownsRow base e size v1 (n + m) (xs ++ news) → Below base w0 w1 → W.grownBy w1 v.ownBlock → (v1.ownBlock = v.ownBlock ∨ v1.ownBlock = some W.heap.size) → (∀ g, v = .slice (some ⟨g, 0, none⟩) 0 0 → 0 < m → v1.ownBlock = some W.heap.size) → wpList P ops Q rest (a.put o.dst v1) w1) :
    wpList P ops Q (o :: rest) a W := by
  obtain ⟨i0, hi, hzz⟩ := Option.map_eq_some_iff.1 hinfo
  simp only [Prod.mk.injEq] at hzz
  obtain ⟨hz0, hz1, hz2⟩ := hzz
  have hlen : n + m ≤ 140737488355328 := Nat.le_trans (Nat.le_mul_of_pos_right _ hb0) hl
  have hcells : ∀ j u, news[j]? = some u → W.cell? (ad.add j) = some u := by
    intro j u hu
    have hj : j < news.length := (List.getElem?_eq_some_iff.1 hu).1
    have hm : 0 < m := by
      rcases Nat.eq_zero_or_pos m with h | h
      · subst h; have := HR.1; rw [Nat.zero_mul] at this; omega
      · exact h
    obtain ⟨ad', h', _, hc⟩ := HR.2 hm
    injection h' with h'
    subst h'
    exact hc j u hu
  obtain ⟨v1, w1, hr, h2, h3, _, h5⟩ := run_append_own_at (P := P) W base t o.type e i0 z size bytes ht hi hz0 hz1 hz2 hzs hsz v n xs HO ad m c news HR.1 hcells h1 (by simp only [maxLen]; omega) hl hbase
  refine wpList_plain hgd fun K hK => ?_
  unfold Oper.wp execOp
  simp only [ho, resolve, invoke, builtin, Sem.run_bind, Sem.run_pure, Result.andThen_ok, List.map_toArray, List.map_cons, List.map_nil, hs, hx, hr]
  refine hK _ _ (h v1 w1 h2 (HB.grown h3 hbase fun k hk => (HO.lt k hk).1) h3 h5 fun g hv hm => ?_)
  subst hv
  have hn0 : n = 0 := by
    rcases HO.2 with ⟨h0, _⟩ | ⟨g', cap', cur, hv, _⟩
    · cases h0
    · injection hv with _ e2 _
      exact e2.symm
  subst hn0
  obtain ⟨v2, w2, r2, o2, _⟩ := run_append_arg_grows (P := P) (w := W) t o.type e i0 z size bytes ht hi hz0 hz1 hz2 hzs hsz ⟨g, 0, none⟩ 0 0 [] (by simp) (fun j u h => by simp at h) ad m c news HR.1 hcells (by omega) (by simp only [maxLen]; omega) hl
  rw [hr] at r2
  injection r2 with e1 e2
  subst e1
  obtain ⟨g2, cap2, hv2, _, h6, _, _, _⟩ := own_blk o2 (by omega)
  rcases h5 with h5 | h5
  · exfalso
    have hg := (HO.lt g rfl).2
    rw [hv2] at h5
    have h7 : some g2 = some g := h5
    injection h7 with h7
    omega
  · exact h5
end
/-- a list told anew: in one of the next two blocks -/
def Cl2 (w : World) (xs : List Int) (e : Ending) (w' : World) : Prop := ∃ A m c, e = .returned (.slice A m c) ∧ m ≤ c ∧ Hid (xs.length = m ∧ w'.ownsRow w.heap.size 3 1 (.slice A m c) m (iL xs) ∧ Below w.heap.size w w' ∧ (∀ b, (Value.slice A m c).ownBlock = some b → b < w.heap.size + 2) ∧ (0 < m → (Value.slice A m c).ownBlock = some (w.heap.size + 1)))
theorem clone2_any (A : Option Addr) (n c : Nat) (xs : List Int) (w : World) (h : Rd w A n 1 (iL xs)) (hl : xs.length = n) (hn : n * 8 ≤ 140737488355328) :
    Calls Try.prog 41 #[.slice A n c] w (Cl2 w xs) := by
  have R := Mm.hid h
  have L := Mm.hid hl
  clear h hl
  rcases A with _ | ad
  · have h0 : n = 0 := by
      rcases Nat.eq_zero_or_pos n with h | h
      · exact h
      · obtain ⟨_, h, _⟩ := R.out.2 h; cases h
    subst h0
    obtain rfl : xs = [] := List.eq_nil_of_length_eq_zero L.out
    have e1 := fun w : World => Lib.run_eql_slice_nil (P := Try.prog) w 22 3 none 0 c 0 0 Try.underlying22
    go_enter Try.func41, Try.ntmps41
    go_wp2
    go_ret
    exact ⟨none, 0, 0, rfl, Nat.le_refl _, rfl, ⟨rfl, .inl ⟨rfl, rfl⟩⟩, Below.refl _ _, fun b hb => (by cases hb), fun h => absurd h (Nat.lt_irrefl _)⟩
  · have e1 := fun w : World => Lib.run_eql_slice_nil (P := Try.prog) w 22 3 (some ad) n c 0 0 Try.underlying22
    have O0 : Hid ((w.alloc (.cells #[] 3)).ownsRow w.heap.size 3 1 (.slice (some ⟨w.heap.size, 0, none⟩) 0 0) 0 []) := own_made (Nat.le_refl _) rfl (by decide)
    have R1 := Mm.hid (R.out.alloc (.cells #[] 3))
    have B0 := Mm.hid ((Below.refl w.heap.size w).alloc (Nat.le_refl _) (.cells #[] 3))
    go_enter Try.func41, Try.ntmps41
    go_wp2_with (at_builtin; go_must (refine wp_apx w.heap.size rfl _ _ 22 3 (.int .i64 0) 1 8 rfl Try.underlying22 info3 rfl (by decide) (by decide) (.slice (some ⟨w.heap.size, 0, none⟩) 0 0) 0 [] ad n c (iL xs) rfl rfl (by exact R1.out) (iL_one xs) (by exact O0.out) B0.out (by simp) (by omega) ?_))
    intro v1 w1 k1 k2 k3 k4 k5
    obtain ⟨A', c', rfl, hc', _, _⟩ := own_slice k1
    have K : Hid (w1.ownsRow w.heap.size 3 1 (.slice A' n c') n (iL xs) ∧ Below w.heap.size w w1 ∧ (∀ b, (Value.slice A' n c').ownBlock = some b → b < w.heap.size + 2) ∧ (0 < n → (Value.slice A' n c').ownBlock = some (w.heap.size + 1))) := ⟨k1, k2, fun b hb => by
      rcases k4 with e | e
      · rw [e] at hb
        have : w.heap.size = b := by injection hb
        omega
      · rw [e] at hb
        injection hb with hb
        omega, fun h => by simpa using k5 h⟩
    clear k1 k2 k3 k4 k5
    go_wp2
    go_ret
    exact ⟨A', n, c', rfl, hc', L.out, K.out.1, K.out.2.1, K.out.2.2.1, K.out.2.2.2⟩
/-- what a round is handed: the order that is next, in memory from block B on -/
def OrdV (L0 : List Int) (n B : Nat) (pre : List (Value × List Int)) (x : Value × List Int) (W : World) : Prop :=
  ordN L0 pre.length = some x.2 ∧ (0 < n → B + 2 ≤ W.heap.size) ∧ ∃ A c, x.1 = .slice A n c ∧ n ≤ c ∧ Rd W A n 1 (iL x.2) ∧ ∀ ad, A = some ad → B ≤ ad.block
/-- all have come -/
def OrdS (L0 : List Int) (xs : List (Value × List Int)) : Prop := ordN L0 xs.length = none ∧ ∀ i x, xs[i]? = some x → ordN L0 i = some x.2
/-- so many have come -/
structure OrdR (L0 : List Int) (n B : Nat) (A1 : Option Addr) (c1 : Nat) (J : List (Value × List Int) → World → Prop) (pre : List (Value × List Int)) (w : World) : Prop where
  inv : J pre w
  had : ∀ i x, pre[i]? = some x → ordN L0 i = some x.2
  row : ∃ L, ordN L0 pre.length = some L ∧ w.ownsRow B 3 1 (.slice A1 n c1) n (iL L)
theorem own_hold {B k e n : Nat} {v : Value} {xs : List Value} {w w' : World} (h : w.ownsRow B e 1 v n xs) (hv : ∀ b, v.ownBlock = some b → b < B + k) (hk : Hold B k w w') : w'.ownsRow B e 1 v n xs := by
  refine ⟨h.1, ?_⟩
  rcases h.2 with h0 | ⟨g, cap, cur, rfl, hb, hg, r⟩
  · exact .inl h0
  · exact .inr ⟨g, cap, cur, rfl, hb, (hk.same g ⟨hb, hv g rfl⟩ (Array.getElem?_eq_some_iff.1 hg).1).trans hg, r⟩
set_option maxRecDepth 100000 in
set_option maxHeartbeats 4000000 in
theorem ord_iter (fb : Nat) (A : Option Addr) (n c : Nat) (L0 : List Int) (w : World) (hb : w.cell? ⟨fb, 0, none⟩ = some (.slice A n c)) (hr : Rd w A n 1 (iL L0)) (hl : L0.length = n) (hn : n ≤ 1048576) :
    Iter Try.prog 55 #[.pointer (some ⟨fb, 0, none⟩)] 2 (fun x : Value × List Int => #[x.1]) (OrdV L0 n) (OrdS L0) w := by
  intro l J Jx W N hW hNJ hJ hJx hY h0
  have hc := hW.cell hb (fun h => h)
  have CL := Mm.hid (clone2_any A n c L0 W (hW.rd hr fun _ _ h => h) hl (by omega))
  have HY := Mm.hid hY
  have H0 := Mm.hid h0
  have HJ := Mm.hid hJ
  have HNJ := Mm.hid hNJ
  clear hY h0 hb hr
  refine callsIn_of_wp Try.func55 rfl trivial ?_ rfl
  simp only [Try.ntmps55, List.size_toArray, List.length_cons, List.length_nil, Nat.reduceAdd, Nat.reduceSub, Array.replicate_succ, Array.replicate_zero, List.push_toArray, List.append_toArray, List.nil_append, List.cons_append]
  gi_wp2_with ((refine ⟨trivial, rfl, ?_⟩; refine (callsIn_wide.2 CL.out).mono ?_; rintro e w1 ⟨A1, m, c1, rfl, hc1, K⟩))
  obtain rfl : m = n := K.out.1.symm.trans hl
  obtain ⟨left, hleft⟩ := left_ex (OrdR L0 m W.heap.size A1 c1 J) N
  have HLF := Mm.hid hleft
  have KB : Hid (∀ b, (Value.slice A1 m c1).ownBlock = some b → b < W.heap.size + 2) := K.out.2.2.2.1
  have KB2 : Hid (0 < m → (Value.slice A1 m c1).ownBlock = some (W.heap.size + 1)) := K.out.2.2.2.2
  have ST : Hid (OrdR L0 m W.heap.size A1 c1 J [] w1) := ⟨HJ.out _ _ _ H0.out ((Fr.of_below K.out.2.2.1).mono fun _ h => h.elim), fun i x h => by simp at h, L0, rfl, K.out.2.1⟩
  clear hleft K CL
  gi_loopw [4, 5] (fun _ _ wr => ∃ pre, OrdR L0 m W.heap.size A1 c1 J pre wr) (fun _ _ wr => left wr)
  case atStart => exact ⟨[], ST.out⟩
  case round =>
    clear ST
    obtain ⟨⟨pre, hR, hm⟩, _⟩ := HLF.out wr hrel
    obtain ⟨L, hL, hrow⟩ := hR.row
    have HR := Mm.hid hR
    have HLo := Mm.hid hL
    have RW := Mm.hid hrow
    have hLl : L.length = m := (ordN_len hL).trans hl
    have HLl := Mm.hid hLl
    obtain ⟨A', c', hv, _, hA, hRd⟩ := own_slice hrow
    have V : Hid (OrdV L0 m W.heap.size pre (.slice A1 m c1, L) wr) := by
      refine ⟨hL, fun h => (by have := (own_lt hrow (KB2.out h)).2; omega), A1, c1, rfl, hc1, ?_, fun ad had => (own_lt hrow (by rw [had]; rfl)).1⟩
      injection hv with e1 e2 e3
      subst e1
      exact hRd
    obtain ⟨fn, tmps, assign, body, hy, hRn⟩ := HY.out pre (.slice A1 m c1, L) wr hR.inv V.out
    dsimp only at hy
    have RN := Mm.hid hRn
    have HM := Mm.hid hm
    clear hR hL hrow hLl hRn hm hRd hA hv hrel
    gi_wp2
    refine ⟨rfl, RN.out.mono ?_⟩
    rintro e W3 (⟨rfl, hJ3, hk3⟩ | ⟨rfl, hJx3, _⟩)
    · have RW3 := Mm.hid (own_hold RW.out KB.out hk3)
      have J3 := Mm.hid hJ3
      have HD : Hid (∀ i y, (pre ++ [((Value.slice A1 m c1, L) : Value × List Int)])[i]? = some y → ordN L0 i = some y.2) := fun i y hy => by
        rcases Nat.lt_or_ge i pre.length with h | h
        · rw [List.getElem?_append_left h] at hy
          exact HR.out.had i y hy
        · have hi := (List.getElem?_eq_some_iff.1 hy).1
          rw [List.length_append, List.length_singleton] at hi
          obtain rfl : i = pre.length := by omega
          rw [List.getElem?_append_right (Nat.le_refl _), Nat.sub_self] at hy
          injection hy with hy
          rw [← hy]
          exact HLo.out
      clear hJ3 hk3 hy V RN HY
      have hw2 : IntKind.i64.wrap ((m : Int) - 2) = (m : Int) - 2 := IntWalk.i64_in _ (by omega)
      have HNX : Hid (ordN L0 (pre ++ [((Value.slice A1 m c1, L) : Value × List Int)]).length = nxt L) := by
        show _ = _
        rw [List.length_append, List.length_singleton]
        show (ordN L0 pre.length).bind nxt = _
        rw [HLo.out]; rfl
      have HLP : Hid ((pre ++ [((Value.slice A1 m c1, L) : Value × List Int)]).length = pre.length + 1) := by show _ = _; simp
      generalize pre ++ [((Value.slice A1 m c1, L) : Value × List Int)] = pre2 at J3 HD HNX HLP
      gi_wp2
      refine wpIn_wide.2 ?_
      go_loopw [4] (fun kv wk => ∃ (z : Int) (d : Nat), -2 ≤ z ∧ z ≤ (m : Int) - 2 ∧ kv = .int .i64 z ∧ Hid (scanK L (m - 1) = scanK L (z + 1).toNat) ∧ wk = W3.drewN d) (fun kv _ => (intOf kv + 2).toNat)
      case atStart => exact ⟨(m : Int) - 2, 0, by omega, by omega, rfl, congrArg (scanK L) (by omega), rfl⟩
      case round =>
        obtain ⟨z, d, hz1, hz2, rfl, HK, hwk⟩ := hrel
        have HWK := Mm.hid hwk
        have FWK : Hid (Fr (fun _ => False) W3 wr) := by show Fr _ _ _; rw [hwk]; exact Fr.drewN _ _ _
        clear hwk
        by_cases hz : 0 ≤ z
        · obtain ⟨k, rfl⟩ : ∃ k : Nat, z = (k : Int) := ⟨z.toNat, by omega⟩
          obtain ⟨x, hx⟩ : ∃ x, L[k]? = some x := ⟨_, List.getElem?_eq_getElem (by rw [HLl.out]; omega)⟩
          obtain ⟨y, hy⟩ : ∃ y, L[k + 1]? = some y := ⟨_, List.getElem?_eq_getElem (by rw [HLl.out]; omega)⟩
          have R0 : Hid (∃ b, A1 = some ⟨b, 0, none⟩ ∧ W.heap.size ≤ b ∧ b < W.heap.size + 2) := by
            obtain ⟨b, cap, hv, _, h1, _, _, _⟩ := own_blk RW3.out (by omega)
            injection hv with e1 _ _
            exact ⟨b, e1, h1, KB.out b (by rw [e1]; rfl)⟩
          obtain ⟨b, rfl, hb1, hb2⟩ := R0.out
          have RV : Hid (RvR W.heap.size b m c1 L W3 wr) := ⟨FWK.out.own RW3.out fun _ _ h => h, FWK.out.mono fun _ h => h.elim⟩
          obtain ⟨cx, fx⟩ := RV.out.cells hx
          obtain ⟨cy, fy⟩ := RV.out.cells hy
          have hbk : (0 : Int) ≤ (k : Int) ∧ (k : Int) < (m : Int) := by omega
          have hbk1 : (0 : Int) ≤ (k : Int) + 1 ∧ (k : Int) + 1 < (m : Int) := by omega
          have hwk1 : IntKind.i64.wrap ((k : Int) + 1) = (k : Int) + 1 := IntWalk.i64_in _ (by omega)
          have hwkm : IntKind.i64.wrap ((k : Int) - 1) = (k : Int) - 1 := IntWalk.i64_in _ (by omega)
          have htn : ((k : Int) + 1).toNat = k + 1 := by omega
          by_cases hxy : y ≤ x
          · have HK2 : Hid (scanK L (m - 1) = scanK L ((k : Int) - 1 + 1).toNat) := by
              show _ = _
              rw [HK.out, show ((k : Int) + 1).toNat = k + 1 from by omega, show ((k : Int) - 1 + 1).toNat = k from by omega]
              show (if (L[k]?).getD 0 < (L[k + 1]?).getD 0 then some k else scanK L k) = _
              rw [hx, hy]
              exact if_neg (by show ¬ x < y; omega)
            clear hx hy HK
            go_wp2_with fail
            go_quiet (fail)
            go_wp2_with fail
            go_roundw
            case rel => exact ⟨(k : Int) - 1, d + nq, by omega, by omega, rfl, HK2, by rw [HWK.out]; exact World.drewN_drewN _ _ _⟩
            case measure => simp [intOf] <;> omega
          · have HK2 : Hid (scanK L (m - 1) = some k) := by
              show _ = _
              rw [HK.out, show ((k : Int) + 1).toNat = k + 1 from by omega]
              show (if (L[k]?).getD 0 < (L[k + 1]?).getD 0 then some k else scanK L k) = _
              rw [hx, hy]
              exact if_pos (by show x < y; omega)
            have HX := Mm.hid hx
            have HYY := Mm.hid hy
            have hge0 : ¬ (k : Int) < 0 := by omega
            have hwm1 : IntKind.i64.wrap ((m : Int) - 1) = (m : Int) - 1 := IntWalk.i64_in _ (by omega)
            clear hx hy HK
            go_wp2_with fail
            go_quiet (fail)
            go_wp2_with fail
            gi_wp2
            refine wpIn_wide.2 ?_
            have HWQ : Hid (wr.drewN nq = W3.drewN (d + nq)) := by show _ = _; rw [HWK.out]; exact World.drewN_drewN _ _ _
            rw [HWQ.out]
            generalize d + nq = d0
            clear HWQ HWK FWK RV cx cy fx fy
            go_loopw [5] (fun jv wk => ∃ (j d : Nat), k + 1 ≤ j ∧ j < m ∧ jv = .int .i64 (j : Nat) ∧ Hid (scanJ L x (m - 1) = scanJ L x j) ∧ wk = W3.drewN d) (fun jv _ => (intOf jv).toNat)
            case atStart => exact ⟨m - 1, d0, by omega, by omega, by go_num, rfl, rfl⟩
            case round =>
              obtain ⟨j, d, hj1, hj2, rfl, HJS, hwj⟩ := hrel
              have HWJ := Mm.hid hwj
              have FWJ : Hid (Fr (fun _ => False) W3 wr) := by show Fr _ _ _; rw [hwj]; exact Fr.drewN _ _ _
              clear hwj
              obtain ⟨u, hu⟩ : ∃ u, L[j]? = some u := ⟨_, List.getElem?_eq_getElem (by rw [HLl.out]; exact hj2)⟩
              have RV : Hid (RvR W.heap.size b m c1 L W3 wr) := ⟨FWJ.out.own RW3.out fun _ _ h => h, FWJ.out.mono fun _ h => h.elim⟩
              obtain ⟨cx, fx⟩ := RV.out.cells HX.out
              obtain ⟨cu, fu⟩ := RV.out.cells hu
              have hbj : (0 : Int) ≤ (j : Int) ∧ (j : Int) < (m : Int) := by omega
              have hwjm : IntKind.i64.wrap ((j : Int) - 1) = (j : Int) - 1 := IntWalk.i64_in _ (by omega)
              by_cases hux : u ≤ x
              · obtain ⟨j', rfl⟩ : ∃ j', j = j' + 1 := ⟨j - 1, by omega⟩
                have hne : k + 1 ≤ j' := by
                  rcases Nat.lt_or_ge k j' with h | h
                  · exact h
                  · exfalso
                    obtain rfl : j' = k := by omega
                    have h1 := HYY.out
                    rw [hu] at h1
                    injection h1 with h1
                    omega
                have HJ2 : Hid (scanJ L x (m - 1) = scanJ L x j') := by
                  show _ = _
                  rw [HJS.out]
                  show (if (L[j' + 1]?).getD 0 ≤ x then scanJ L x j' else j' + 1) = _
                  rw [hu]
                  exact if_pos hux
                have ej : ((j' + 1 : Nat) : Int) - 1 = (j' : Int) := by omega
                have EJ := Mm.hid ej
                clear hu HJS ej
                go_wp2_with fail
                go_quiet (fail)
                go_wp2_with fail
                go_roundw
                case rel => exact ⟨j', d + nq, by omega, by omega, by go_num, HJ2, by rw [HWJ.out]; exact World.drewN_drewN _ _ _⟩
                case measure => simp [intOf] <;> omega
              · have HJ2 : Hid (scanJ L x (m - 1) = j) := by
                  show _ = _
                  rw [HJS.out]
                  obtain ⟨j', rfl⟩ : ∃ j', j = j' + 1 := ⟨j - 1, by omega⟩
                  show (if (L[j' + 1]?).getD 0 ≤ x then scanJ L x j' else j' + 1) = _
                  rw [hu]
                  exact if_neg hux
                have HU := Mm.hid hu
                clear hu HJS
                go_wp2_with fail
                go_quiet (fail)
                go_wp2_with fail
                have RVD : Hid (RvR W.heap.size b m c1 L W3 (wr.drewN nq)) := ⟨(Fr.drewN (fun _ => False) wr nq).own RV.out.row fun _ _ h => h, RV.out.fr.trans (Fr.drewN _ _ _) fun _ _ h => h⟩
                generalize wr.drewN nq = w4 at RVD
                have NX := Mm.hid (RVD.out.sw HX.out HU.out)
                obtain ⟨ck, fk⟩ := RVD.out.cells HX.out
                obtain ⟨cj, fj⟩ := RVD.out.cells HU.out
                have hkm : k + 1 + (m - (k + 1)) = m := by omega
                have HKM := Mm.hid hkm
                clear hkm cx cu fx fu RV FWJ HWJ hwjm
                gi_wp2
                refine wpIn_wide.2 ?_
                have s1 : (k : Int) + 1 ≤ (m : Int) := by omega
                have s2 : (m : Int) ≤ (c1 : Int) := by omega
                have s3 : ¬ c1 = k + 1 := by omega
                have s4 : (0 : Int) ≤ (k : Int) + 1 := by omega
                go_region_law (fail)
                all_goals (
                  have NXD : Hid (RvR W.heap.size b m c1 (sw L k j) W3 ((w4.setCell ⟨b, k, none⟩ (.int .i64 u)).setCell ⟨b, j, none⟩ (.int .i64 x)).drew) := ⟨NX.out.row, NX.out.fr.trans (Fr.drew _ _) fun _ _ h => h⟩
                  generalize ((w4.setCell ⟨b, k, none⟩ (.int .i64 u)).setCell ⟨b, j, none⟩ (.int .i64 x)).drew = w5 at NXD
                  clear ck fk cj fj NX RVD
                  gi_wp2
                  refine ⟨trivial, rfl, (callsIn_wide.2 (rev_any W.heap.size b m c1 (k + 1) (m - (k + 1)) (c1 - (k + 1)) (sw L k j) w5 NXD.out.row HKM.out (by omega))).mono ?_⟩
                  rintro e w6 ⟨⟨v, rfl⟩, HRV⟩
                  have NXT : Hid (OrdR L0 m W.heap.size (some ⟨b, 0, none⟩) c1 J pre2 w6) := by
                    refine ⟨HJ.out _ _ _ J3.out ((NXD.out.fr.trans HRV.out.fr fun _ _ e => e).mono fun g e => ⟨by omega, by omega⟩), HD.out, _, ?_, HRV.out.row⟩
                    rw [HNX.out]
                    exact nxt_of HLl.out HK2.out HX.out HJ2.out
                  have MS : Hid (left w6 < N - pre.length) := by
                    have h1 := (HLF.out w6 ⟨pre2, NXT.out⟩).2 pre2 NXT.out
                    have h2 := HLP.out
                    have h3 := HNJ.out pre2 W3 J3.out
                    show _ < _
                    omega
                  gi_wp2
                  go_roundw
                  case rel => exact ⟨pre2, NXT.out⟩
                  case measure => rw [HM.out]; exact MS.out)
        · have hn0 : Hid (nxt L = none) := by
            have h1 := HK.out
            rw [show (z + 1).toNat = 0 from by omega] at h1
            unfold nxt
            rw [HLl.out, h1]
            rfl
          have hlt0 : z < 0 := by omega
          have hdz : decide (0 ≤ z) = false := decide_eq_false hz
          clear HK
          go_wp2_with fail
          go_quiet (fail)
          go_wp2_with fail
          gi_wp2
          refine bodyPost_ret (results_none rfl _ _ _) rfl ?_
          refine ⟨⟨_, rfl⟩, .inl ⟨pre2, ⟨HNX.out.trans hn0.out, HD.out⟩, HJ.out _ _ _ J3.out ?_⟩⟩
          exact (FWK.out.trans (Fr.drewN (fun _ => False) _ _) fun _ _ h => h).mono fun _ h => h.elim
    · gi_wp2
      go_end0
      exact ⟨⟨_, rfl⟩, .inr ⟨_, hJx3⟩⟩
theorem ordV_keep {L0 : List Int} {n : Nat} : ∀ B pre x (W W' : World), OrdV L0 n B pre x W → W.heap.size ≤ W'.heap.size → (∀ g, B ≤ g → g < W.heap.size → W'.heap[g]? = W.heap[g]?) → OrdV L0 n B pre x W' := by
  rintro B pre x W W' ⟨h1, h2, A, c, h3, h4, h5, h6⟩ hs hg
  exact ⟨h1, fun h => Nat.le_trans (h2 h) hs, A, c, h3, h4, h5.keep hs fun ad hA hl => hg _ (h6 ad hA) hl, h6⟩
end Go.Proofs.Ytecppnkfnppmoaa

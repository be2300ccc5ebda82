/- Walk: the numbers in the order in which a walk in depth leaves them. -/
import Derived.Test.YthjldlgmfplngaaDfs
namespace Go.Proofs.Ythjldlgmfplngaa
open Go.RowKit Go.Mm Go.Maps Go.Reach Go.WideMaps
theorem make22 (n : Nat) (hn : n ≤ 1099511627776) (w : World) : (Instr.makeSlice 22 (.int .i64 (n : Int)) (.int .i64 (n : Int))).run Try.prog w = .ok (.slice (some ⟨w.heap.size, 0, none⟩) n n) (w.alloc (.cells (iN (List.replicate n 0)).toArray 3)) := by
  have h := run_make_flat (P := Try.prog) (fun x : Nat => [Value.int .i64 (x : Nat)]) 0 Try.underlying22 info3 rfl (by decide) rfl n (by omega) (by omega) w
  rw [flatMap_one (fun x : Nat => Value.int .i64 (x : Nat))] at h
  exact h
theorem own_cut {w : World} {base e n c k g : Nat} {xs : List Value} (h : w.ownsRow base e 1 (.slice (some ⟨g, 0, none⟩) n c) n xs) (hk : k ≤ n) : w.ownsRow base e 1 (.slice (some ⟨g, 0, none⟩) k c) k (xs.take k) := by
  rcases h.2 with ⟨h0, _⟩ | ⟨g', cap, cur, hv, hb, hg, hnc, hcm, hcs, ht⟩
  · cases h0
  · injection hv with h1 h2 h3
    injection h1 with h1
    injection h1 with h1
    subst h1
    subst h3
    have hl := own_len h
    refine ⟨by rw [List.length_take, hl]; omega, .inr ⟨g, c, cur, rfl, hb, hg, by omega, hcm, hcs, ?_⟩⟩
    rw [← ht, List.take_take]
    congr 1
    omega
/-- a walk in depth under way, in memory -/
structure DfM (base gb : Nat) (Ao : Option Addr) (mo co : Nat) (As : Option Addr) (ms cs : Nat) (st : Dfs) (w0 w : World) : Prop where
  ord : w.ownsRow base 3 1 (.slice Ao mo co) mo (iN st.order)
  been : Blk w gb 3 (iN st.been).toArray
  stk : w.ownsRow base 3 1 (.slice As ms cs) ms (iN st.stack)
  on : (Value.slice Ao mo co).ownBlock ≠ some gb
  sn : (Value.slice As ms cs).ownBlock ≠ some gb
  os : ∀ k, (Value.slice Ao mo co).ownBlock = some k → (Value.slice As ms cs).ownBlock ≠ some k
  ge : base ≤ gb
  fr : Below base w0 w
section
variable {base gb mo co ms cs : Nat} {Ao As : Option Addr} {st : Dfs} {w0 w w' : World}
theorem DfM.frn (h : DfM base gb Ao mo co As ms cs st w0 w) (hf : Fr (fun _ => False) w w') : DfM base gb Ao mo co As ms cs st w0 w' :=
  ⟨hf.own h.ord fun _ _ h => h, hf.blk h.been fun h => h, hf.own h.stk fun _ _ h => h, h.on, h.sn, h.os, h.ge, h.fr.trans (hf.below (fun _ h => h.elim) (by have := h.been.lt; have := h.ge; omega))⟩
theorem DfM.cell (h : DfM base gb Ao mo co As ms cs st w0 w) {x b : Nat} (hb : st.been[x]? = some b) : w.cell? ⟨gb, x, none⟩ = some (.int .i64 (b : Nat)) := by
  rw [h.been.cell]; simp [iN, hb]
theorem DfM.been_set (h : DfM base gb Ao mo co As ms cs st w0 w) (x v : Nat) : DfM base gb Ao mo co As ms cs { st with been := st.been.set x v } w0 (w.setCell ⟨gb, x, none⟩ (.int .i64 (v : Nat))) := by
  have hf := Fr.setCell w ⟨gb, x, none⟩ (.int .i64 (v : Nat))
  refine ⟨hf.own h.ord fun b hb (e : b = gb) => h.on (e ▸ hb), ?_, hf.own h.stk fun b hb (e : b = gb) => h.sn (e ▸ hb), h.on, h.sn, h.os, h.ge, h.fr.trans (hf.below (fun k (e : k = gb) => by rw [e]; exact h.ge) (by have := h.been.lt; have := h.ge; omega))⟩
  have := h.been.set x (.int .i64 (v : Nat))
  rw [show (iN st.been).toArray.setIfInBounds x (.int .i64 (v : Nat)) = (iN (st.been.set x v)).toArray from by simp [iN, List.map_set]] at this
  exact this
/-- one left more -/
theorem DfM.push_ord (h : DfM base gb Ao mo co As ms cs st w0 w) {A' : Option Addr} {c' x : Nat} (o : w'.ownsRow base 3 1 (.slice A' (mo + 1) c') (mo + 1) (iN st.order ++ [.int .i64 (x : Nat)])) (g : w.grownBy w' (Value.slice Ao mo co).ownBlock) (k4 : ∀ k, (Value.slice A' (mo + 1) c').ownBlock = some k → (Value.slice Ao mo co).ownBlock = some k ∨ w.heap.size ≤ k) (hb : Below base w0 w') : DfM base gb A' (mo + 1) c' As ms cs { st with order := st.order ++ [x] } w0 w' := by
  have hf := Fr.grown g
  refine ⟨by rw [← iN_snoc]; exact o, hf.blk h.been h.on, hf.own h.stk fun b hb e => h.os b e hb, fun e => ?_, h.sn, fun k hk e => ?_, h.ge, hb⟩
  · rcases k4 gb e with h1 | h1
    · exact h.on h1
    · have := h.been.lt; omega
  · rcases k4 k hk with h1 | h1
    · exact h.os k h1 e
    · have := (own_lt h.stk e).2; omega
theorem DfM.push_stk (h : DfM base gb Ao mo co As ms cs st w0 w) {A' : Option Addr} {c' x : Nat} (o : w'.ownsRow base 3 1 (.slice A' (ms + 1) c') (ms + 1) (iN st.stack ++ [.int .i64 (x : Nat)])) (g : w.grownBy w' (Value.slice As ms cs).ownBlock) (k4 : ∀ k, (Value.slice A' (ms + 1) c').ownBlock = some k → (Value.slice As ms cs).ownBlock = some k ∨ w.heap.size ≤ k) (hb : Below base w0 w') : DfM base gb Ao mo co A' (ms + 1) c' { st with stack := st.stack ++ [x] } w0 w' := by
  have hf := Fr.grown g
  refine ⟨hf.own h.ord fun b hb e => h.os b hb e, hf.blk h.been h.sn, by rw [← iN_snoc]; exact o, h.on, fun e => ?_, fun k hk e => ?_, h.ge, hb⟩
  · rcases k4 gb e with h1 | h1
    · exact h.sn h1
    · have := h.been.lt; omega
  · rcases k4 k e with h1 | h1
    · exact h.os k hk h1
    · have := (own_lt h.ord hk).2; omega
theorem DfM.pop {g : Nat} (h : DfM base gb Ao mo co (some ⟨g, 0, none⟩) (ms + 1) cs st w0 w) : DfM base gb Ao mo co (some ⟨g, 0, none⟩) ms cs { st with stack := st.stack.dropLast } w0 w := by
  have hl : st.stack.length = ms + 1 := by have := own_len h.stk; rwa [iN_len] at this
  refine ⟨h.ord, h.been, ?_, h.on, h.sn, h.os, h.ge, h.fr⟩
  have := own_cut h.stk (k := ms) (by omega)
  rwa [show (iN st.stack).take ms = iN st.stack.dropLast from by rw [List.dropLast_eq_take, hl, iN, iN, List.map_take]; rfl] at this
/-- another list to go on from -/
theorem DfM.anew {g : Nat} (h : DfM base gb Ao mo co As ms cs st w0 w) (x : Nat) (hg : w.heap.size = g) : DfM base gb Ao mo co (some ⟨g, 0, none⟩) 1 1 { st with stack := [x] } w0 (w.alloc (.cells #[.int .i64 (x : Nat)] 3)) := by
  have hb := h.been.lt
  have hf := Fr.alloc (fun _ => False) w (.cells #[.int .i64 (x : Nat)] 3)
  have h2 := h.frn hf
  have hlit := own_lit1 w base 3 (.int .i64 (x : Nat)) (by have := h.ge; omega)
  rw [hg] at hlit
  refine ⟨h2.ord, h2.been, hlit, h2.on, fun e => ?_, fun k hk e => ?_, h2.ge, h2.fr⟩
  · have : some g = some gb := e
    injection this with this
    omega
  · have : some g = some k := e
    injection this with this
    have := (own_lt h.ord hk).2
    omega
end
def slN : Value → Nat
  | .slice _ n _ => n
  | _ => 0
def rdN (w : World) (a : Addr) : Nat := match w.cell? a with
  | some (.int _ v) => v.toNat
  | _ => 0
/-- what is left, as the memory tells it -/
def phiM (E : Nat → List Nat) (gb : Nat) : Nat → Nat → World → Nat
  | 0, _, _ => 0
  | n + 1, j, w => ((E j).length + 2 - rdN w ⟨gb, j, none⟩) + phiM E gb n (j + 1) w
theorem phiM_eq {E : Nat → List Nat} {gb : Nat} {w : World} : ∀ (l : List Nat) (j : Nat), (∀ i b, l[i]? = some b → w.cell? ⟨gb, j + i, none⟩ = some (.int .i64 (b : Nat))) → phiM E gb l.length j w = phiB E j l
  | [], j, _ => rfl
  | b :: l, j, h => by
    have h0 := h 0 b rfl
    simp only [List.length_cons, phiM, phiB]
    rw [phiM_eq l (j + 1) fun i b' hb => by have := h (i + 1) b' (by simpa using hb); rwa [show j + (i + 1) = j + 1 + i from by omega] at this]
    rw [Nat.add_zero] at h0
    rw [rdN, h0]
    simp
theorem DfM.phi {base gb mo co ms cs : Nat} {Ao As : Option Addr} {st : Dfs} {w0 w : World} {E : Nat → List Nat} (h : DfM base gb Ao mo co As ms cs st w0 w) : 2 * phiM E gb st.been.length 0 w + ms = Go.Reach.phi E st := by
  have hl : st.stack.length = ms := by have := own_len h.stk; rwa [iN_len] at this
  rw [phiM_eq st.been 0 fun i b hb => by rw [Nat.zero_add]; exact h.cell hb, Go.Reach.phi, hl]
set_option maxRecDepth 100000 in
set_option maxHeartbeats 4000000 in
theorem left_any (n : Nat) (v0 v1 v2 : Value) (W : Wb ByteArray) (w : World) (h : WebR w n v0 v1 v2 W) (hok : W.Ok) (hn : n ≤ 4194304) (hl : ∀ k, (W.E k).length ≤ 4194304) :
    Calls Try.prog 54 #[.agg #[v0, v1, v2]] w fun e w' => ∃ A m c, e = .returned (.slice A m c) ∧ m ≤ c ∧ Hid ((leave (fun x => W.E (true, x)) n).order.length = m ∧ w'.ownsRow w.heap.size 3 1 (.slice A m c) m (iN (leave (fun x => W.E (true, x)) n).order) ∧ Fr (fun _ => False) w w') := by
  have hmk := make22 n (by omega)
  obtain ⟨E, hE⟩ : ∃ E : Nat → List Nat, E = fun x => W.E (true, x) := ⟨_, rfl⟩
  have HE : Hid (∀ x, ∀ y ∈ E x, y < n) := fun x y hy => by rw [hE] at hy; have := hok.rng _ y hy; rwa [h.len] at this
  have HEL : Hid (∀ x, (E x).length ≤ 4194304) := fun x => by rw [hE]; exact hl _
  obtain ⟨A0, c0, rfl, hc0, _⟩ := h.nm
  obtain ⟨A1, c1, _, rfl, hc1, _, _⟩ := h.s1.out
  obtain ⟨A2, c2, _, rfl, hc2, _, _⟩ := h.s2.out
  have HW := Mm.hid h
  rw [← hE]
  obtain ⟨w1, hw1⟩ : ∃ w1, w.alloc (.cells #[.slice A0 n c0, .slice A1 n c1, .slice A2 n c2] 83) = w1 := ⟨_, rfl⟩
  have F1 : Hid (Fr (fun _ => False) w w1) := by show Fr _ _ _; rw [← hw1]; exact Fr.alloc (fun _ => False) w _
  have B1 : Hid (Blk w1 w.heap.size 83 #[.slice A0 n c0, .slice A1 n c1, .slice A2 n c2]) := by show Blk _ _ _ _; rw [← hw1]; exact Blk.new w _ _
  have HEE := Mm.hid hE
  clear h hok hl hE
  obtain ⟨gb, hgb⟩ : ∃ gb, w1.heap.size = gb := ⟨_, rfl⟩
  obtain ⟨w2, hw2⟩ : ∃ w2, w1.alloc (.cells (iN (List.replicate n 0)).toArray 3) = w2 := ⟨_, rfl⟩
  have F2 : Hid (Fr (fun _ => False) w w2) := by show Fr _ _ _; rw [← hw2]; exact F1.out.trans (Fr.alloc (fun _ => False) w1 _) fun _ _ h => h
  have B2 := Mm.hid ((hw2 ▸ Fr.alloc (fun _ => False) w1 _ : Fr (fun _ => False) w1 w2).blk B1.out fun h => h)
  have e0 : w2.cell? ⟨w.heap.size, 0, none⟩ = some (.slice A0 n c0) := B2.out.cell 0
  have e0' : w1.cell? ⟨w.heap.size, 0, none⟩ = some (.slice A0 n c0) := B1.out.cell 0
  have hgw : w.heap.size < gb := by rw [← hgb]; exact B1.out.lt
  have ST : Hid (∃ st As ms cs, st = (List.range 0).foldl (dnext E) ⟨[], List.replicate n 0, []⟩ ∧ st.stack = [] ∧ DOk E n st ∧ DfM gb gb none 0 0 As ms cs st w1 w2) := by
    refine ⟨_, none, 0, 0, rfl, rfl, dzero_ok E n, ⟨⟨rfl, .inl ⟨rfl, rfl⟩⟩, ?_, ⟨rfl, .inl ⟨rfl, rfl⟩⟩, (fun e => nomatch e), (fun e => nomatch e), (fun _ e => nomatch e), Nat.le_refl _, by rw [← hgb]; exact (hw2 ▸ Fr.alloc (fun _ => False) w1 _ : Fr (fun _ => False) w1 w2).below (fun _ h => h.elim) (Nat.le_refl _)⟩⟩
    rw [← hw2, ← hgb]
    exact Blk.new w1 _ _
  go_enter Try.func54, Try.ntmps54
  go_wp2_with fail
  clear e0 e0' hw1 hw2 hmk
  go_loopw [3, 5, 6, 7, 8, 16] (fun ov _ _ _ _ iv wr => ∃ k Ao mo co, k ≤ n ∧ iv = .int .i64 (k : Nat) ∧ ov = .slice Ao mo co ∧ mo ≤ co ∧ Hid (∃ st As ms cs, st = (List.range k).foldl (dnext E) ⟨[], List.replicate n 0, []⟩ ∧ st.stack = [] ∧ DOk E n st ∧ DfM gb gb Ao mo co As ms cs st w1 wr)) (fun _ _ _ _ _ iv _ => n - (intOf iv).toNat)
  case atStart => exact ⟨0, none, 0, 0, Nat.zero_le _, rfl, rfl, Nat.le_refl _, ST⟩
  case round =>
    obtain ⟨k, Ao, mo, co, hk, rfl, rfl, hco, HQ⟩ := hrel
    clear ST
    by_cases hlt : k < n
    · obtain ⟨st, As, ms, cs, hst, hse, hok, hM⟩ := HQ.out
      obtain ⟨b, hb⟩ : ∃ b, st.been[k]? = some b := ⟨_, List.getElem?_eq_getElem (by rw [hok.len]; exact hlt)⟩
      have f1 := hM.cell hb
      have f2 : wr.frozen? ⟨gb, k, none⟩ = false := hM.been.free k
      have DN : Hid ((List.range (k + 1)).foldl (dnext E) ⟨[], List.replicate n 0, []⟩ = dnext E st k) := by show _ = _; rw [range_foldl_succ, ← hst]
      have HM := Mm.hid hM
      have HOK := Mm.hid hok
      have HSE := Mm.hid hse
      have HB := Mm.hid hb
      clear hst hok hM hse HQ hb
      by_cases hb0 : b = 0
      · subst hb0
        have MS := Mm.hid (HM.out.been_set k 1)
        have ST1 : Hid (∃ sx, DOk E n sx ∧ dall E sx = dnext E st k ∧ DfM gb gb Ao mo co (some ⟨wr.heap.size, 0, none⟩) 1 1 sx w1 ((wr.setCell ⟨gb, k, none⟩ (.int .i64 1)).alloc (.cells #[.int .i64 (k : Nat)] 3))) := by
          refine ⟨{ st with been := st.been.set k 1, stack := [k] }, dstart_ok HOK.out HSE.out HB.out, ?_, MS.out.anew k (by simp)⟩
          unfold dnext
          rw [HB.out]
          rfl
        generalize dnext E st k = T at *
        clear HM HOK HSE HB MS
        go_wp2_with fail
        go_loopw [3, 6, 7, 8] (fun ov sv _ _ wq => ∃ Ao mo co As ms cs, ov = .slice Ao mo co ∧ mo ≤ co ∧ sv = .slice As ms cs ∧ ms ≤ cs ∧ Hid (∃ sx, DOk E n sx ∧ dall E sx = T ∧ DfM gb gb Ao mo co As ms cs sx w1 wq)) (fun _ sv _ _ wq => 2 * phiM E gb n 0 wq + slN sv)
        case atStart => exact ⟨Ao, mo, co, _, 1, 1, rfl, hco, rfl, Nat.le_refl _, ST1⟩
        case round =>
          obtain ⟨Ao, mo, co, As, ms, cs, rfl, hco, rfl, hcs, HQ⟩ := hrel
          clear ST1
          obtain ⟨sx, hok, hT, hM⟩ := HQ.out
          have hms : sx.stack.length = ms := by have := own_len hM.stk; rwa [iN_len] at this
          by_cases hm0 : ms = 0
          · subst hm0
            have hse := List.eq_nil_of_length_eq_zero hms
            have NX : Hid (∃ st' As ms cs, st' = (List.range (k + 1)).foldl (dnext E) ⟨[], List.replicate n 0, []⟩ ∧ st'.stack = [] ∧ DOk E n st' ∧ DfM gb gb Ao mo co As ms cs st' w1 wr) := by
              refine ⟨sx, As, 0, cs, ?_, hse, hok, hM⟩
              rw [DN.out, ← hT, dall_done hse]
            clear hok hT hM HQ DN
            go_wp2_with fail
            go_roundw
            case rel => exact ⟨k + 1, Ao, mo, co, by omega, by go_num, rfl, hco, NX⟩
            case measure => simp [intOf] <;> omega
          · have hne : sx.stack ≠ [] := fun e => hm0 (by rw [← hms, e]; rfl)
            obtain ⟨x, b, hx, hxn, hb, hb1, hle, hcase⟩ := dstep_spec hok HE.out hne
            obtain ⟨hok2, hphi⟩ := dstep_ok hok HE.out hne
            have hT2 : dall E (dstep E sx) = T := by rw [← hT]; exact (dall_step HE.out hok hne).symm
            have hlen2 := dorder_lt hok
            have hmo : sx.order.length = mo := by have := own_len hM.ord; rwa [iN_len] at this
            have hbl := hok.len
            obtain ⟨m1, rfl⟩ : ∃ m1, ms = m1 + 1 := ⟨ms - 1, by omega⟩
            obtain ⟨gs, cs', hvs, _, _, _, hcs1, _⟩ := own_blk hM.stk (by omega)
            injection hvs with hv1 _ hv3
            subst hv1
            subst hv3
            have hxs : sx.stack[m1]? = some x := by
              rw [List.getLast?_eq_getElem?, hms] at hx
              simpa using hx
            have g1 := hcs1 m1 _ (iN_get hxs)
            have g2 := hM.cell hb
            have hf1 := hM.fr
            rw [← hgb] at hf1
            have WQ := Mm.hid ((HW.out.frn F1.out).frn (Fr.of_below hf1))
            obtain ⟨ad1, c1', A', c', e1, _, g4, hc', hRr⟩ := WQ.out.s1.at hxn
            injection e1 with e1 _ e3
            subst e1
            subst e3
            have g3 : wr.cell? ⟨w.heap.size, 1, none⟩ = some (.slice (some ad1) n c1) := ((Fr.of_below hf1).blk B1.out fun h => h).cell 1
            have hEx : W.E (true, x) = E x := by rw [HEE.out]
            rw [hEx] at g4 hc' hRr
            obtain ⟨q, hq⟩ : ∃ q, (E x).length = q := ⟨_, rfl⟩
            rw [hq] at g4 hc' hRr hle hcase
            have hq9 : q ≤ 4194304 := by rw [← hq]; exact HEL.out x
            have em : ((m1 + 1 : Nat) : Int) - 1 = (m1 : Int) := by omega
            have OK2 := Mm.hid hok2
            have TT2 := Mm.hid hT2
            have HMM := Mm.hid hM
            have RR := Mm.hid hRr
            have hP : 2 * phiM E gb n 0 wr + (m1 + 1) = phi E sx := by
              have := hM.phi (E := E)
              rwa [hbl] at this
            have HP2 : Hid (∀ (w' : World) (Ao' As' : Option Addr) (mo' co' ms' cs' : Nat), DfM gb gb Ao' mo' co' As' ms' cs' (dstep E sx) w1 w' → 2 * phiM E gb n 0 w' + ms' < 2 * phiM E gb n 0 wr + (m1 + 1)) := fun w' Ao' As' mo' co' ms' cs' h => by
              have h1 := h.phi (E := E)
              rw [hok2.len] at h1
              omega
            clear hok hT hM HQ hok2 hT2 hRr hEx hq WQ hf1 hcs1 hx hxs hb hne hP
            rcases hcase with ⟨hlt2, hd⟩ | ⟨hble, y, c2', hy, hyn, hc2, hcc⟩
            · have HD := Mm.hid hd
              clear hd
              go_wp2_with fail
              go_quiet (fail)
              obtain ⟨wq, hwq⟩ : ∃ wq, wr.drewN nq = wq := ⟨_, rfl⟩
              have MQ : Hid (DfM gb gb Ao mo co (some ⟨gs, 0, none⟩) (m1 + 1) cs sx w1 wq) := by show DfM _ _ _ _ _ _ _ _ _ _ _; rw [← hwq]; exact HMM.out.frn (Fr.drewN (fun _ => False) _ _)
              rw [hwq]
              have HSo : Hid (∀ u ∈ (#[.int .i64 (x : Nat)] : Array Value).toList, u.oneCell' = true) := by intro u hu; simp at hu; subst hu; rfl
              have HLo : Hid ((mo + 1) * 8 ≤ 140737488355328) := by show _ ≤ _; omega
              have RO := Mm.hid MQ.out.ord
              have BO := Mm.hid MQ.out.fr
              have SZ : Hid (gb ≤ wq.heap.size) := by show _ ≤ _; have := MQ.out.been.lt; omega
              clear g1 g2 g3 g4 hwq
              go_wp2_with (at_builtin; go_must (refine wp_ape1 gb rfl (.tmp 49) (.tmp 51) 22 3 (.int .i64 0) 1 8 #[.int .i64 (x : Nat)] rfl Try.underlying22 info3 rfl (by decide) (by decide) (.slice Ao mo co) mo _ rfl rfl rfl HSo.out RO.out BO.out SZ.out HLo.out ?_; intro v1 wb k1 k2 k3 k4; obtain ⟨A3, c3, hv, hc3, _, _⟩ := own_slice k1; subst hv; have K1 := Mm.hid k1; have K2 := Mm.hid k2; have K3 := Mm.hid k3; have K4 := Mm.hid (k4_of k4); clear k1 k2 k3 k4))
              have NM : Hid (DfM gb gb A3 (mo + 1) c3 (some ⟨gs, 0, none⟩) m1 cs (dstep E sx) w1 wb) := by
                show DfM _ _ _ _ _ _ _ _ _ _ _
                rw [HD.out]
                exact (MQ.out.push_ord K1.out K3.out K4.out K2.out).pop
              have hms2 := HP2.out _ _ _ _ _ _ _ NM.out
              go_roundw
              case rel => exact ⟨A3, mo + 1, c3, some ⟨gs, 0, none⟩, m1, cs, rfl, hc3, rfl, by omega, ⟨_, OK2.out, TT2.out, NM.out⟩⟩
              case measure => simpa [slN] using hms2
            · obtain ⟨ady, rfl, _, g5⟩ := RR.out.cell (iN_get hy)
              have eb : ((b : Nat) : Int) - 1 = ((b - 1 : Nat) : Int) := by omega
              have hb9 : b ≤ 4194305 := by omega
              have hbnot : ¬ q < b := by omega
              have HCC := Mm.hid hcc
              have HC2 := Mm.hid hc2
              have g6 : wr.frozen? ⟨gb, x, none⟩ = false := HMM.out.been.free x
              clear hcc hy hc2
              go_wp2_with fail
              go_quiet (fail)
              obtain ⟨wq, hwq⟩ : ∃ wq, wr.drewN nq = wq := ⟨_, rfl⟩
              have q1 : wq.cell? ⟨gs, m1, none⟩ = some (.int .i64 (x : Nat)) := by rw [← hwq]; exact g1
              have q2 : wq.cell? ⟨gb, x, none⟩ = some (.int .i64 (b : Nat)) := by rw [← hwq]; exact g2
              have q3 : wq.cell? ⟨w.heap.size, 1, none⟩ = some (.slice (some ad1) n c1) := by rw [← hwq]; exact g3
              have q4 : wq.cell? (ad1.add x) = some (.slice (some ady) q c') := by rw [← hwq]; exact g4
              have q5 : wq.cell? (ady.add (b - 1)) = some (.int .i64 (y : Nat)) := by rw [← hwq]; exact g5
              have FQ : Hid (Fr (fun _ => False) wr wq) := by show Fr _ _ _; rw [← hwq]; exact Fr.drewN (fun _ => False) _ _
              rw [hwq]
              clear g1 g2 g3 g4 g5 g6 hwq
              go_wp2_with fail
              go_quiet (fail)
              obtain ⟨wz, hwz⟩ : ∃ wz, wq.drewN nq = wz := ⟨_, rfl⟩
              have MZ : Hid (DfM gb gb Ao mo co (some ⟨gs, 0, none⟩) (m1 + 1) cs sx w1 wz) := by show DfM _ _ _ _ _ _ _ _ _ _ _; rw [← hwz]; exact HMM.out.frn (FQ.out.trans (Fr.drewN (fun _ => False) _ _) fun _ _ h => h)
              have z2 : wz.cell? ⟨gb, x, none⟩ = some (.int .i64 (b : Nat)) := by rw [← hwz]; exact q2
              have z3 : wz.frozen? ⟨gb, x, none⟩ = false := MZ.out.been.free x
              rw [hwz]
              clear q1 q2 q3 q4 q5 hwz
              go_upto_region 16 with (fail)
              have hcast : ((b + 1 : Nat) : Int) = (b : Int) + 1 := by omega
              have M3 := MZ.out.been_set x (b + 1)
              rw [hcast] at M3
              obtain ⟨w3, hw3⟩ : ∃ w3, wz.setCell ⟨gb, x, none⟩ (.int .i64 ((b : Int) + 1)) = w3 := ⟨_, rfl⟩
              rw [hw3] at M3 ⊢
              have M3h := Mm.hid M3
              have y1 : w3.cell? ⟨gb, y, none⟩ = some (.int .i64 (c2' : Nat)) := M3.cell HC2.out
              have y2 : w3.frozen? ⟨gb, y, none⟩ = false := M3.been.free y
              clear M3 hw3 z2 z3 hcast
              rcases HCC.out with ⟨h0, hd⟩ | ⟨h0, hd⟩
              · subst h0
                have HD := Mm.hid hd
                have M4 := M3h.out.been_set y 1
                obtain ⟨w4, hw4⟩ : ∃ w4, w3.setCell ⟨gb, y, none⟩ (.int .i64 ((1 : Nat) : Int)) = w4 := ⟨_, rfl⟩
                rw [hw4] at M4
                have hw4' : w3.setCell ⟨gb, y, none⟩ (.int .i64 1) = w4 := hw4
                have M4h := Mm.hid M4
                clear hd M4 hw4
                go_upto_region 18 with (fail)
                have HSo : Hid (∀ u ∈ (#[.int .i64 (y : Nat)] : Array Value).toList, u.oneCell' = true) := by intro u hu; simp at hu; subst hu; rfl
                have HLo : Hid ((m1 + 1 + 1) * 8 ≤ 140737488355328) := by show _ ≤ _; omega
                have RO := Mm.hid M4h.out.stk
                have BO := Mm.hid M4h.out.fr
                have SZ : Hid (gb ≤ w4.heap.size) := by show _ ≤ _; have := M4h.out.been.lt; omega
                clear y1 y2
                go_wp2_with (at_builtin; go_must (refine wp_ape1 gb rfl (.tmp 84) (.tmp 86) 22 3 (.int .i64 0) 1 8 #[.int .i64 (y : Nat)] rfl Try.underlying22 info3 rfl (by decide) (by decide) (.slice (some ⟨gs, 0, none⟩) (m1 + 1) cs) (m1 + 1) _ rfl rfl rfl HSo.out RO.out BO.out SZ.out HLo.out ?_; intro v1 wb k1 k2 k3 k4; obtain ⟨A3, c3, hv, hc3, _, _⟩ := own_slice k1; subst hv; have K1 := Mm.hid k1; have K2 := Mm.hid k2; have K3 := Mm.hid k3; have K4 := Mm.hid (k4_of k4); clear k1 k2 k3 k4))
                have NM : Hid (DfM gb gb Ao mo co A3 (m1 + 1 + 1) c3 (dstep E sx) w1 wb) := by
                  show DfM _ _ _ _ _ _ _ _ _ _ _
                  rw [HD.out]
                  exact M4h.out.push_stk K1.out K3.out K4.out K2.out
                have hms2 := HP2.out _ _ _ _ _ _ _ NM.out
                go_roundw
                case rel => exact ⟨Ao, mo, co, A3, m1 + 1 + 1, c3, rfl, hco, rfl, hc3, ⟨_, OK2.out, TT2.out, NM.out⟩⟩
                case measure => simpa [slN] using hms2
              · have HD := Mm.hid hd
                have hne2 : ((c2' : Int) == 0) = false := beq_eq_false_iff_ne.2 (by omega)
                have NM : Hid (DfM gb gb Ao mo co (some ⟨gs, 0, none⟩) (m1 + 1) cs (dstep E sx) w1 w3) := by
                  show DfM _ _ _ _ _ _ _ _ _ _ _
                  rw [HD.out]
                  exact M3h.out
                have hms2 := HP2.out _ _ _ _ _ _ _ NM.out
                clear hd h0
                go_wp2_with fail
                go_roundw
                case rel => exact ⟨Ao, mo, co, some ⟨gs, 0, none⟩, m1 + 1, cs, rfl, hco, rfl, hcs, ⟨_, OK2.out, TT2.out, NM.out⟩⟩
                case measure => simpa [slN] using hms2
      · have hne : ((b : Int) != 0) = true := bne_iff_ne.2 (by omega)
        have NX : Hid (∃ st' As ms cs, st' = (List.range (k + 1)).foldl (dnext E) ⟨[], List.replicate n 0, []⟩ ∧ st'.stack = [] ∧ DOk E n st' ∧ DfM gb gb Ao mo co As ms cs st' w1 wr) := by
          refine ⟨st, As, ms, cs, ?_, HSE.out, HOK.out, HM.out⟩
          rw [DN.out]
          unfold dnext
          rw [HB.out]
          simp [hb0]
        clear HM HOK HSE HB DN
        go_wp2_with fail
        go_roundw
        case rel => exact ⟨k + 1, Ao, mo, co, by omega, by go_num, rfl, hco, NX⟩
        case measure => simp [intOf] <;> omega
    · have hkn : k = n := by omega
      subst hkn
      obtain ⟨st, As, ms, cs, hst, hse, hok, hM⟩ := HQ.out
      have FIN : Hid ((leave E k).order.length = mo ∧ wr.ownsRow w.heap.size 3 1 (.slice Ao mo co) mo (iN (leave E k).order) ∧ Fr (fun _ => False) w wr) := by
        show _ ∧ _ ∧ _
        unfold leave
        rw [← hst]
        have := own_len hM.ord
        rw [iN_len] at this
        have hf := hM.fr
        rw [← hgb] at hf
        exact ⟨this, own_mono hM.ord (by omega), F1.out.trans (Fr.of_below hf) fun _ _ h => h⟩
      clear hst hse hok hM HQ
      go_wp2_with fail
      go_ret
      exact ⟨Ao, mo, co, rfl, hco, FIN⟩
end Go.Proofs.Ythjldlgmfplngaa

/- Breadth-first, as the document has it: names and reasons. -/
import Derived.Test.YthjldlgmfplngaaSame
namespace Go.Reach
variable {α : Type} [DecidableEq α]
/-- the reasons, of one first name: in whose turn each was put there -/
def rs (f : α → List α) (l0 : List α) : Nat → List Int
  | 0 => [-1]
  | k + 1 => rs f l0 k ++ List.replicate ((cl f l0 (k + 1)).length - (cl f l0 k).length) (k : Int)
/-- reasons under way in a turn -/
def rsAt (f : α → List α) (l0 : List α) (k : Nat) (l : List α) : List Int := rs f l0 k ++ List.replicate (l.length - (cl f l0 k).length) (k : Int)
theorem rsAt_start (f : α → List α) (l0 : List α) (k : Nat) : rsAt f l0 k (cl f l0 k) = rs f l0 k := by simp [rsAt]
theorem rsAt_end (f : α → List α) (l0 : List α) (k : Nat) : rsAt f l0 k (cl f l0 (k + 1)) = rs f l0 (k + 1) := rfl
theorem rsAt_push {f : α → List α} {l0 l : List α} {k : Nat} (h : (cl f l0 k).length ≤ l.length) (y : α) : rsAt f l0 k (l ++ [y]) = rsAt f l0 k l ++ [(k : Int)] := by
  unfold rsAt
  rw [List.length_append, List.length_singleton, show l.length + 1 - (cl f l0 k).length = (l.length - (cl f l0 k).length) + 1 from by omega, List.replicate_succ', List.append_assoc]
theorem rs_len {f : α → List α} {l0 : List α} (h : l0.length = 1) (k : Nat) : (rs f l0 k).length = (cl f l0 k).length := by
  induction k with
  | zero => simp [rs, cl, h]
  | succ k ih =>
    rw [rs, List.length_append, ih, List.length_replicate]
    have := (cl_succ (f := f) (l0 := l0) k).length_le
    omega
end Go.Reach
namespace Go.Proofs.Ythjldlgmfplngaa
open Go.RowKit Go.Mm Go.Maps Go.Reach Go.WideMaps
theorem info3 : (Try.prog.info? 3).map (fun i => (i.zero, i.size, i.bytes)) = some (some (.int .i64 0), 1, 8) := by kernel_rfl
theorem own_lit1 (w : World) (base e : Nat) (u : Value) (hb : base ≤ w.heap.size) : (w.alloc (.cells #[u] e)).ownsRow base e 1 (.slice (some ⟨w.heap.size, 0, none⟩) 1 1) 1 [u] :=
  ⟨rfl, .inr ⟨w.heap.size, 1, #[u], rfl, hb, heap_alloc_new w _, Nat.le_refl _, by unfold maxLen; omega, rfl, rfl⟩⟩
theorem size66 : (Try.prog.info? 66).map (·.size) = some 2 := by kernel_rfl
/-- the list under way -/
structure BrB (base rb : Nat) (v r : Value) (l : List ByteArray) (y : List Int) (w : World) : Prop where
  box : Blk w rb 66 #[v, r]
  row : w.ownsRow base 9 1 v l.length (strs l)
  why : w.ownsRow base 3 1 r y.length (iL y)
  ge : base ≤ rb
section
variable {base rb : Nat} {v r v1 : Value} {l : List ByteArray} {y : List Int} {w w0 w1 W : World} {T : Nat → Prop}
theorem BrB.fr (h : BrB base rb v r l y w) (hf : Fr (fun _ => False) w w1) : BrB base rb v r l y w1 :=
  ⟨hf.blk h.box fun h => h, hf.own h.row fun _ _ h => h, hf.own h.why fun _ _ h => h, h.ge⟩
theorem BrB.pushN (h : BrB base rb v r l y W) {b : ByteArray} (r1 : w1.ownsRow base 9 1 v1 (l.length + 1) (strs l ++ [.string b])) (g1 : W.grownBy w1 v.ownBlock) (h0 : Fr (fun _ => False) w0 W) (hb : base = w0.heap.size) :
    BrB base rb v1 r (l ++ [b]) y (w1.setCell ⟨rb, 0, none⟩ v1) ∧ Fr (fun _ => False) w0 (w1.setCell ⟨rb, 0, none⟩ v1) := by
  have f1 : Fr (fun k => v.ownBlock = some k) W w1 := Fr.grown g1
  have B1 := f1.blk h.box fun e => own_ne h.row h.box (by decide) e
  have f3 := Fr.setCell w1 ⟨rb, 0, none⟩ v1
  refine ⟨⟨B1.set 0 v1, ?_, ?_, h.ge⟩, ?_⟩
  · rw [show (l ++ [b]).length = l.length + 1 from by simp, ← strs_snoc]
    exact f3.own r1 fun k hk (e : k = rb) => own_ne r1 B1 (by decide) (e ▸ hk)
  · have y1 := f1.own h.why fun k hk e => own_own_ne h.why h.row (by decide) hk e
    exact f3.own y1 fun k hk (e : k = rb) => own_ne y1 B1 (by decide) (e ▸ hk)
  · refine (h0.trans f1 fun k hk e => ?_).trans f3 fun k hk (e : k = rb) => ?_
    · have := (own_lt h.row e).1; omega
    · have := h.ge; omega
theorem BrB.pushW (h : BrB base rb v r l y W) {b : Int} (r1 : w1.ownsRow base 3 1 v1 (y.length + 1) (iL y ++ [.int .i64 b])) (g1 : W.grownBy w1 r.ownBlock) (h0 : Fr (fun _ => False) w0 W) (hb : base = w0.heap.size) :
    BrB base rb v v1 l (y ++ [b]) (w1.setCell ⟨rb, 1, none⟩ v1) ∧ Fr (fun _ => False) w0 (w1.setCell ⟨rb, 1, none⟩ v1) := by
  have f1 : Fr (fun k => r.ownBlock = some k) W w1 := Fr.grown g1
  have B1 := f1.blk h.box fun e => own_ne h.why h.box (by decide) e
  have f3 := Fr.setCell w1 ⟨rb, 1, none⟩ v1
  refine ⟨⟨B1.set 1 v1, ?_, ?_, h.ge⟩, ?_⟩
  · have y1 := f1.own h.row fun k hk e => own_own_ne h.row h.why (by decide) hk e
    exact f3.own y1 fun k hk (e : k = rb) => own_ne y1 B1 (by decide) (e ▸ hk)
  · rw [show (y ++ [b]).length = y.length + 1 from by simp, ← iL_snoc]
    exact f3.own r1 fun k hk (e : k = rb) => own_ne r1 B1 (by decide) (e ▸ hk)
  · refine (h0.trans f1 fun k hk e => ?_).trans f3 fun k hk (e : k = rb) => ?_
    · have := (own_lt h.why e).1; omega
    · have := h.ge; omega
end
/-- in the turn of number k, so many pairs read -/
structure BrR (ps : List Pr) (x : ByteArray) (rb qb : Nat) (w : World) (k i : Nat) (wr : World) : Prop where mk ::
  out : ∃ v r l y, BrB w.heap.size rb v r l y wr ∧ Fr (fun _ => False) w wr ∧ Blk wr qb 66 #[nilS, nilS] ∧ qb ≠ rb ∧ w.heap.size ≤ qb ∧ l.length = y.length ∧ (cl (line ps) [x] k).length ≤ l.length ∧ y = rsAt (line ps) [x] k l ∧ (∀ z, (cl (line ps) [x] k)[k]? = some z → l = puts (cl (line ps) [x] k) (line (ps.take i) z)) ∧ (i = 0 → l = cl (line ps) [x] k) ∧ (∀ z ∈ l, z ∈ all ps x) ∧ l.length ≤ ps.length + 1
def BrE (ps : List Pr) (x : ByteArray) (w : World) (e : Ending) (w' : World) : Prop :=
  ∃ v r L k, e = .returned (.agg #[v, r]) ∧ L = cl (line ps) [x] k ∧ L.length ≤ k ∧ w'.ownsRow w.heap.size 9 1 v L.length (strs L) ∧ w'.ownsRow w.heap.size 3 1 r L.length (iL (rs (line ps) [x] k)) ∧ Fr (fun _ => False) w w'
theorem br_start (ps : List Pr) (x : ByteArray) (w : World) : BrR ps x (w.heap.size + 1 + 1 + 1) w.heap.size w 0 0 ((((w.alloc (.cells #[.slice none 0 0, .slice none 0 0] 66)).alloc (.cells #[.string x] 9)).alloc (.cells #[.int .i64 (-1)] 3)).alloc (.cells #[.slice (some ⟨w.heap.size + 1, 0, none⟩) 1 1, .slice (some ⟨w.heap.size + 1 + 1, 0, none⟩) 1 1] 66)) := by
  have q0 := Blk.new w #[.slice none 0 0, .slice none 0 0] 66
  obtain ⟨w1, h1⟩ : ∃ w1, w.alloc (.cells #[.slice none 0 0, .slice none 0 0] 66) = w1 := ⟨_, rfl⟩
  have s1 : w1.heap.size = w.heap.size + 1 := by rw [← h1]; simp
  have n1 := own_lit1 w1 w.heap.size 9 (.string x) (by omega)
  rw [s1] at n1
  rw [h1] at q0 ⊢
  obtain ⟨w2, h2⟩ : ∃ w2, w1.alloc (.cells #[.string x] 9) = w2 := ⟨_, rfl⟩
  have s2 : w2.heap.size = w.heap.size + 1 + 1 := by rw [← h2]; simp [s1]
  have m2 := own_lit1 w2 w.heap.size 3 (.int .i64 (-1)) (by omega)
  rw [s2] at m2
  rw [h2] at n1 ⊢
  have f01 : Fr (fun _ => False) w w1 := h1 ▸ Fr.alloc (fun _ => False) w _
  have f12 : Fr (fun _ => False) w1 w2 := h2 ▸ Fr.alloc (fun _ => False) w1 _
  obtain ⟨w3, h3⟩ : ∃ w3, w2.alloc (.cells #[.int .i64 (-1)] 3) = w3 := ⟨_, rfl⟩
  have s3 : w3.heap.size = w.heap.size + 1 + 1 + 1 := by rw [← h3]; simp [s2]
  rw [h3] at m2 ⊢
  have f23 : Fr (fun _ => False) w2 w3 := h3 ▸ Fr.alloc (fun _ => False) w2 _
  have b3 := Blk.new w3 #[.slice (some ⟨w.heap.size + 1, 0, none⟩) 1 1, .slice (some ⟨w.heap.size + 1 + 1, 0, none⟩) 1 1] 66
  rw [s3] at b3
  have f34 := Fr.alloc (fun _ => False) w3 (.cells #[.slice (some ⟨w.heap.size + 1, 0, none⟩) 1 1, .slice (some ⟨w.heap.size + 1 + 1, 0, none⟩) 1 1] 66)
  have f24 := f23.trans f34 fun _ _ h => h
  have f14 := f12.trans f24 fun _ _ h => h
  refine ⟨_, _, [x], [-1], ⟨b3, f24.own n1 fun _ _ h => h, f34.own m2 fun _ _ h => h, by omega⟩, f01.trans f14 fun _ _ h => h, f14.blk q0 fun h => h, by omega, Nat.le_refl _, rfl, Nat.le_refl _, by simp [rsAt, rs, cl], fun z _ => by simp [line, puts, cl], fun _ => rfl, fun z hz => by rw [List.mem_singleton.1 hz]; exact List.mem_cons_self .., by simp⟩
theorem BrR.drew {ps : List Pr} {x : ByteArray} {rb qb k i d : Nat} {w wr : World} (h : BrR ps x rb qb w k i wr) : BrR ps x rb qb w k i (wr.drewN d) := by
  obtain ⟨v, r, l, y, b, f, q, rest⟩ := h.out
  have fd := Fr.drewN (fun _ => False) wr d
  exact ⟨v, r, l, y, b.fr fd, f.trans fd fun _ _ h => h, fd.blk q fun h => h, rest⟩
/-- a pair that puts nothing there -/
theorem BrR.skip {ps : List Pr} {x : ByteArray} {rb qb k i : Nat} {w wr : World} {p : Pr} {z : ByteArray} (h : BrR ps x rb qb w k i wr) (hp : ps[i]? = some p) (hz : (cl (line ps) [x] k)[k]? = some z) (hs : p.a ≠ z ∨ p.b ∈ puts (cl (line ps) [x] k) (line (ps.take i) z)) : BrR ps x rb qb w k (i + 1) wr := by
  obtain ⟨v, r, l, y, b, f, q, n1, n2, n3, n4, n5, n6, n7, n8, n9⟩ := h.out
  refine ⟨v, r, l, y, b, f, q, n1, n2, n3, n4, n5, fun z' hz' => ?_, fun h => by omega, n8, n9⟩
  rw [hz] at hz'
  injection hz' with hz'
  subst hz'
  rw [take_snoc' hp, line_snoc]
  have hl := n6 z hz
  rcases hs with hs | hin
  · rw [if_neg (fun e => hs e.symm)]; exact hl
  · split
    · rw [puts_snoc, put1_in hin]; exact hl
    · exact hl
/-- a pair that puts its second name there -/
theorem BrR.push {ps : List Pr} {x : ByteArray} {rb qb k i : Nat} {w w2 : World} {p : Pr} {v r : Value} {l : List ByteArray} {y : List Int} (b : BrB w.heap.size rb v r (l ++ [p.b]) (y ++ [(k : Int)]) w2) (f : Fr (fun _ => False) w w2) (q : Blk w2 qb 66 #[nilS, nilS]) (n1 : qb ≠ rb) (n2 : w.heap.size ≤ qb) (n3 : l.length = y.length) (n4 : (cl (line ps) [x] k).length ≤ l.length) (n5 : y = rsAt (line ps) [x] k l) (n6 : l = puts (cl (line ps) [x] k) (line (ps.take i) p.a)) (n8 : ∀ z ∈ l, z ∈ all ps x) (hnd : l.Nodup) (hp : ps[i]? = some p) (hz : (cl (line ps) [x] k)[k]? = some p.a) (hout : p.b ∉ l) : BrR ps x rb qb w k (i + 1) w2 := by
  have h8 : ∀ z ∈ l ++ [p.b], z ∈ all ps x := fun z hz => by
    rcases List.mem_append.1 hz with h | h
    · exact n8 z h
    · rw [List.mem_singleton.1 h]
      exact List.mem_cons_of_mem _ (List.mem_map.2 ⟨p, List.mem_of_getElem? hp, rfl⟩)
  refine ⟨v, r, _, _, b, f, q, n1, n2, by simp [n3], by simp; omega, by rw [rsAt_push n4, n5], fun z' hz' => ?_, fun h => by omega, h8, ?_⟩
  · rw [hz] at hz'
    injection hz' with hz'
    subst hz'
    rw [take_snoc' hp, line_snoc, if_pos rfl, puts_snoc, ← n6, put1_out hout]
  · have hn2 : (l ++ [p.b]).Nodup := by
      have := nodup_put1 (y := p.b) hnd
      rwa [put1_out hout] at this
    have := nodup_le hn2 h8
    rwa [all_len] at this
/-- the turn is over -/
theorem BrR.next {ps : List Pr} {x : ByteArray} {rb qb k i : Nat} {w wr : World} {z : ByteArray} (h : BrR ps x rb qb w k i wr) (hz : (cl (line ps) [x] k)[k]? = some z) (hi : ps.length ≤ i) : BrR ps x rb qb w (k + 1) 0 wr := by
  obtain ⟨v, r, l, y, b, f, q, n1, n2, n3, n4, n5, n6, n7, n8, n9⟩ := h.out
  have hl := n6 z hz
  rw [List.take_of_length_le hi, ← cl_step hz] at hl
  subst hl
  exact ⟨v, r, _, y, b, f, q, n1, n2, n3, Nat.le_refl _, by rw [n5, rsAt_end, rsAt_start], fun z' _ => by simp [line, puts], fun _ => rfl, n8, n9⟩
set_option maxRecDepth 100000 in
set_option maxHeartbeats 4000000 in
theorem breadth_any (ps : List Pr) (x : ByteArray) (A : Option Addr) (N c : Nat) (w : World) (hr : Rd w A N 2 (ps.flatMap fPr)) (hN : ps.length = N) (hl : N * 32 + 16 ≤ 140737488355328) :
    Calls Try.prog 42 #[.slice A N c, .string x] w (BrE ps x w) := by
  have R := Mm.hid hr
  have HN := Mm.hid hN
  have HL := Mm.hid hl
  have hn9 : N ≤ 140737488355328 := by omega
  clear hr hN hl
  go_enter Try.func42, Try.ntmps42
  have ST := Mm.hid (br_start ps x w)
  go_wp2_with fail
  obtain ⟨rb, hrb⟩ : ∃ rb, w.heap.size + 1 + 1 + 1 = rb := ⟨_, rfl⟩
  obtain ⟨qb, hqb⟩ : ∃ qb, w.heap.size = qb := ⟨_, rfl⟩
  have ST2 : Hid (∃ W, W = ((((w.alloc (.cells #[.slice none 0 0, .slice none 0 0] 66)).alloc (.cells #[.string x] 9)).alloc (.cells #[.int .i64 (-1)] 3)).alloc (.cells #[.slice (some ⟨w.heap.size + 1, 0, none⟩) 1 1, .slice (some ⟨w.heap.size + 1 + 1, 0, none⟩) 1 1] 66)) ∧ BrR ps x rb qb w 0 0 W) := by
    refine ⟨_, rfl, ?_⟩
    have h := ST.out
    rw [hrb] at h
    rw [← hqb]; exact h
  obtain ⟨W, hW, hB⟩ := ST2.out
  have ST3 := Mm.hid hB
  rw [hrb, ← hW, hqb]
  clear ST ST2 hW hB hrb hqb
  go_loopw [6] (fun i wr => ∃ k : Nat, i = .int .i64 (k : Nat) ∧ Hid (BrR ps x rb qb w k 0 wr)) (fun i _ => N + 2 - (intOf i).toNat)
  case atStart => exact ⟨0, rfl, ST3.out⟩
  case round =>
    obtain ⟨k, rfl, HK⟩ := hrel
    clear ST3
    obtain ⟨v, r, l, y, b, f, q, n1, n2, n3, n4, n5, n6, n7, n8, n9⟩ := HK.out.out
    have hl := n7 rfl
    obtain ⟨A1, c1, rfl, hc1, _, _⟩ := own_slice b.row
    obtain ⟨A2, c2, rfl, hc2, _, _⟩ := own_slice b.why
    obtain ⟨m, hm⟩ : ∃ m, l.length = m := ⟨_, rfl⟩
    have e0 : wr.cell? ⟨rb, 0, none⟩ = some (.slice A1 m c1) := by rw [← hm]; exact b.box.cell 0
    have e1 : wr.cell? ⟨rb, 1, none⟩ = some (.slice A2 m c2) := by rw [← hm, n3]; exact b.box.cell 1
    have N3 := Mm.hid n3
    have N2 := Mm.hid n2
    have hm9 : m ≤ N + 1 := by rw [← hm, ← HN.out]; exact n9
    have B := Mm.hid b
    have F := Mm.hid f
    have Q := Mm.hid q
    have HM := Mm.hid hm
    have HLL := Mm.hid hl
    have N5 := Mm.hid n5
    rw [hm] at hc1
    clear b f q n2 n3 n4 n5 n6 n7 n8 n9 hm hl
    by_cases hlt : k < m
    · have hzz : ∃ z, (cl (line ps) [x] k)[k]? = some z := ⟨_, List.getElem?_eq_getElem (by rw [← HLL.out, HM.out]; exact hlt)⟩
      obtain ⟨z, hz⟩ := hzz
      have HZ := Mm.hid hz
      have hk9 : k ≤ 140737488355328 := by omega
      clear hz B F Q HLL N5 HM
      go_wp2_with fail
      clear e0 e1
      go_loopw [7] (fun i wr => ∃ j : Nat, j ≤ N ∧ i = .int .i64 (j : Nat) ∧ Hid (BrR ps x rb qb w k j wr)) (fun i _ => N - (intOf i).toNat)
      case atStart => exact ⟨0, Nat.zero_le _, rfl, HK.out⟩
      case round =>
        obtain ⟨j, hj, rfl, HJ⟩ := hrel
        clear HK
        by_cases hlt2 : j < N
        · obtain ⟨p, hp⟩ : ∃ p, ps[j]? = some p := ⟨_, List.getElem?_eq_getElem (by rw [HN.out]; exact hlt2)⟩
          have HP := Mm.hid hp
          obtain ⟨v, r, l, y, b, f, q, n1, n2, n3, n4, n5, n6, n7, n8, n9⟩ := HJ.out.out
          obtain ⟨ad, rfl, _, f0, f1⟩ := rd_pr (f.rd R.out fun _ _ h => h) HN.out hp
          obtain ⟨A1, c1, rfl, hc1, _, hR⟩ := own_slice b.row
          obtain ⟨A2, c2, rfl, hc2, _, _⟩ := own_slice b.why
          have hl6 := n6 z HZ.out
          have hlk : l[k]? = some z := by
            obtain ⟨t, ht⟩ := puts_prefix (cl (line ps) [x] k) (line (ps.take j) z)
            rw [hl6, ← ht, List.getElem?_append_left (List.getElem?_eq_some_iff.1 HZ.out).1]
            exact HZ.out
          obtain ⟨ad1, rfl, _, g1⟩ := hR.cell (strs_get hlk)
          have hkl : k < l.length := (List.getElem?_eq_some_iff.1 hlk).1
          have hnd : Hid l.Nodup := by show l.Nodup; rw [hl6]; exact nodup_puts (cl_nodup (by simp) k)
          have MK : Hid (∀ d, Calls Try.prog 51 #[.slice (some ad1) l.length c1, .string p.b] (wr.drewN d) fun e w' => e = .returned (.bool (isIn l p.b)) ∧ w' = wr.drewN d) := Mm.hid fun d => has_any _ _ _ l p.b _ ((Fr.drewN (fun _ => False) wr d).rd hR fun _ _ h => h) (by have := HN.out; omega)
          obtain ⟨m, hm⟩ : ∃ m, l.length = m := ⟨_, rfl⟩
          have e0 : wr.cell? ⟨rb, 0, none⟩ = some (.slice (some ad1) m c1) := by rw [← hm]; exact b.box.cell 0
          have e1 : wr.cell? ⟨rb, 1, none⟩ = some (.slice A2 m c2) := by rw [← hm, n3]; exact b.box.cell 1
          have hm9 : m ≤ N + 1 := by rw [← hm, ← HN.out]; exact n9
          have B := Mm.hid b
          have F := Mm.hid f
          have Q := Mm.hid q
          have HM := Mm.hid hm
          have N1 := Mm.hid n1
          have N2 := Mm.hid n2
          have N3 := Mm.hid n3
          have N4 := Mm.hid n4
          have N5 := Mm.hid n5
          have N6 := Mm.hid hl6
          have N8 := Mm.hid n8
          rw [hm] at hc1 hkl MK
          rw [← n3, hm] at hc2
          clear b f q n2 n3 n4 n5 n6 n7 n8 n9 hm hl6 hR hlk hp
          by_cases hz : p.a = z
          · subst hz
            have hs := str_same p.a
            by_cases hin : isIn l p.b = true
            · have MT : Hid (∀ d, Calls Try.prog 51 #[.slice (some ad1) m c1, .string p.b] (wr.drewN d) fun e w' => e = .returned (.bool true) ∧ w' = wr.drewN d) := by
                have h := MK.out
                rw [hin] at h
                exact h
              have NX : Hid (BrR ps x rb qb w k (j + 1) wr) := HJ.out.skip HP.out HZ.out (.inr (by rw [← N6.out]; exact isIn_iff.1 hin))
              clear hin MK
              go_wp2_with fail
              go_quiet (exact Calls.quiet_of_same (MT.out _))
              clear e0 e1 f0 f1 g1
              go_wp2
              go_roundw
              case rel => exact ⟨j + 1, by omega, by go_num, NX.out.drew⟩
              case measure => simp [intOf] <;> omega
            · have MT : Hid (∀ d, Calls Try.prog 51 #[.slice (some ad1) m c1, .string p.b] (wr.drewN d) fun e w' => e = .returned (.bool false) ∧ w' = wr.drewN d) := by
                have h := MK.out
                rw [Bool.eq_false_iff.2 hin] at h
                exact h
              have HO : Hid (p.b ∉ l) := Mm.hid fun h => hin (isIn_true h)
              clear hin MK
              go_wp2_with fail
              go_quiet (exact Calls.quiet_of_same (MT.out _))
              obtain ⟨wq, hwq⟩ : ∃ wq, wr.drewN nq = wq := ⟨_, rfl⟩
              have fq : Fr (fun _ => False) wr wq := by rw [← hwq]; exact Fr.drewN (fun _ => False) _ _
              obtain ⟨W6, hW6⟩ : ∃ W6, (wq.alloc (.cells #[.string p.b] 9)).drew = W6 := ⟨_, rfl⟩
              have f6 : Fr (fun _ => False) wq W6 := by rw [← hW6]; exact (Fr.alloc (fun _ => False) wq _).trans (Fr.drew (fun _ => False) _) fun _ _ h => h
              have fr6 := fq.trans f6 fun _ _ h => h
              have BX : Hid (Blk W6 wq.heap.size 9 #[.string p.b]) := by show Blk _ _ _ _; rw [← hW6]; exact (Blk.new wq _ _).keep rfl
              have B6 := Mm.hid (B.out.fr fr6)
              have F6 := Mm.hid (F.out.trans fr6 fun _ _ h => h)
              have Q6 := Mm.hid (fr6.blk Q.out fun h => h)
              have R6 : Hid (W6.ownsRow w.heap.size 9 1 (.slice (some ad1) m c1) m (strs l)) := by
                have h := B6.out.row
                rw [HM.out] at h; exact h
              have d0 : wq.cell? ⟨rb, 0, none⟩ = some (.slice (some ad1) m c1) := by rw [← hwq]; exact e0
              have d2 : wq.cell? (ad.add (j * 2)) = some (.string p.a) := by rw [← hwq]; exact f0
              have d3 : wq.cell? ⟨(ad.add (j * 2)).block, (ad.add (j * 2)).off + 1, none⟩ = some (.string p.b) := by rw [← hwq]; exact f1
              have HLm : Hid ((m + 1) * 16 ≤ 140737488355328 ∧ (m + 1) * 8 ≤ 140737488355328) := by
                have := HL.out
                have hn2 : (l ++ [p.b]).Nodup := by
                  have := nodup_put1 (y := p.b) hnd.out
                  rwa [put1_out HO.out] at this
                have h3 := nodup_le hn2 (U := all ps x) (fun z hz => by
                  rcases List.mem_append.1 hz with h | h
                  · exact N8.out z h
                  · rw [List.mem_singleton.1 h]
                    exact List.mem_cons_of_mem _ (List.mem_map.2 ⟨p, List.mem_of_getElem? HP.out, rfl⟩))
                rw [all_len, List.length_append, HM.out, HN.out, List.length_singleton] at h3
                exact ⟨by omega, by omega⟩
              have HSo : ∀ u ∈ (#[.string p.b] : Array Value).toList, u.oneCell' = true := by intro u hu; simp at hu; subst hu; rfl
              have HS1 := Mm.hid HSo
              have hqn : rb ≠ wq.heap.size := Nat.ne_of_lt (B.out.fr fq).box.lt
              have hqn' : wq.heap.size ≠ rb := hqn.symm
              have d9 : (wq.alloc (.cells #[.string p.b] 9)).cell? ⟨rb, 0, none⟩ = some (.slice (some ad1) m c1) := ((Fr.alloc (fun _ => False) wq _).cell d0 fun h => h)
              have HW6 := Mm.hid hW6
              rw [hwq]
              clear e0 e1 f0 f1 g1 hwq fq hW6 f6 fr6 HSo MT
              go_wp2_with fail
              go_region_law ((rw [HW6.out]; refine step_ape1 w.heap.size rfl (.tmp 48) (.tmp 54) 33 9 (.string ByteArray.empty) 1 16 #[.string p.b] wq.heap.size rfl Try.underlying33 info9 rfl (by decide) (by decide) (.slice (some ad1) m c1) m _ rfl rfl BX.out rfl HS1.out R6.out F6.out.size HLm.out.1 ?_; intro v1 wa k1 k3 k4; have BA := (Fr.grown k3).blk B6.out.box (fun e => own_ne R6.out B6.out.box (by decide) e); have e5 : wa.cell? ⟨rb, 0, none⟩ = some (.slice (some ad1) m c1) := (by have h := BA.cell 0; rw [HM.out] at h; exact h); have e7 : wa.cell? ⟨rb, 1, none⟩ = some (.slice A2 m c2) := (by have h := BA.cell 1; rw [← N3.out, HM.out] at h; exact h); have e8 : wa.frozen? ⟨rb, 1, none⟩ = false := BA.free 1; have e6 : wa.frozen? ⟨rb, 0, none⟩ = false := BA.free 0; obtain ⟨A3, c3, hv, hc3, _, _⟩ := own_slice k1; subst hv; have K1 := Mm.hid k1; have K3 := Mm.hid k3; clear k1 k3 k4 BA))
              all_goals (
                obtain ⟨b7, f7⟩ := B6.out.pushN (b := p.b) (v1 := .slice A3 (m + 1) c3) (by rw [HM.out]; exact K1.out) K3.out F6.out rfl
                have q7 := (Fr.setCell wa ⟨rb, 0, none⟩ (.slice A3 (m + 1) c3)).blk ((Fr.grown K3.out).blk Q6.out fun e => own_ne R6.out Q6.out (by decide) e) (fun e => N1.out e)
                obtain ⟨wb, hwb⟩ : ∃ wb, wa.setCell ⟨rb, 0, none⟩ (.slice A3 (m + 1) c3) = wb := ⟨_, rfl⟩
                rw [hwb] at b7 f7 q7 ⊢
                have B7 := Mm.hid b7
                have F7 := Mm.hid f7
                have Q7 := Mm.hid q7
                have hy7 := b7.why
                rw [← N3.out, HM.out] at hy7
                have Y7 := Mm.hid hy7
                have c0 : wb.cell? ⟨rb, 1, none⟩ = some (.slice A2 m c2) := by
                  have h := b7.box.cell 1
                  rw [← N3.out, HM.out] at h; exact h
                have HK2 : ∀ u ∈ (#[.int .i64 (k : Int)] : Array Value).toList, u.oneCell' = true := by intro u hu; simp at hu; subst hu; rfl
                have HK3 := Mm.hid HK2
                clear b7 f7 q7 hwb hy7 HK2 K1 K3 e5 e6 e7 e8 d0 d2 d3 d9 hqn hqn'
                go_wp2_with (at_builtin; go_must (refine wp_ape1 w.heap.size rfl (.tmp 58) (.tmp 60) 22 3 (.int .i64 0) 1 8 #[.int .i64 (k : Int)] rfl Try.underlying22 info3 rfl (by decide) (by decide) (.slice A2 m c2) m _ rfl rfl rfl HK3.out Y7.out (Below.refl _ _) F7.out.size HLm.out.2 ?_; intro v2 wc k1 k2 k3 k4; have BC := (Fr.grown k3).blk B7.out.box (fun e => own_ne Y7.out B7.out.box (by decide) e); have a1 : wc.cell? ⟨rb, 1, none⟩ = some (.slice A2 m c2) := (by have h := BC.cell 1; rw [← N3.out, HM.out] at h; exact h); have a2 : wc.frozen? ⟨rb, 1, none⟩ = false := BC.free 1; obtain ⟨A4, c4, hv, hc4, _, _⟩ := own_slice k1; subst hv; have K1 := Mm.hid k1; have K3 := Mm.hid k3; clear k1 k2 k3 k4 BC))
                have NX : Hid (BrR ps x rb qb w k (j + 1) (wc.setCell ⟨rb, 1, none⟩ (.slice A4 (m + 1) c4))) := by
                  obtain ⟨b8, f8⟩ := B7.out.pushW (b := (k : Int)) (v1 := .slice A4 (m + 1) c4) (by rw [← N3.out, HM.out]; exact K1.out) (by rw [← N3.out, HM.out]; exact K3.out) F7.out rfl
                  have q8 := (Fr.setCell wc ⟨rb, 1, none⟩ (.slice A4 (m + 1) c4)).blk ((Fr.grown K3.out).blk Q7.out fun e => own_ne Y7.out Q7.out (by decide) e) (fun e => N1.out e)
                  exact BrR.push b8 f8 q8 N1.out N2.out N3.out N4.out N5.out N6.out N8.out hnd.out HP.out HZ.out HO.out
                clear c0 a1 a2
                go_roundw
                case rel => exact ⟨j + 1, by omega, by go_num, NX.out⟩
                case measure => simp [intOf] <;> omega)
          · have hs := str_ne hz
            have NX : Hid (BrR ps x rb qb w k (j + 1) wr) := HJ.out.skip HP.out HZ.out (.inl hz)
            clear hz MK
            go_wp2_with fail
            go_quiet (fail)
            clear e0 e1 f0 f1 g1
            go_wp2
            go_roundw
            case rel => exact ⟨j + 1, by omega, by go_num, NX.out.drew⟩
            case measure => simp [intOf] <;> omega
        · have hjN : j = N := by omega
          have NX : Hid (BrR ps x rb qb w (k + 1) 0 wr) := HJ.out.next HZ.out (by rw [HN.out, hjN]; exact Nat.le_refl _)
          subst hjN
          go_wp2_with fail
          go_roundw
          case rel => exact ⟨k + 1, by go_num, NX.out⟩
          case measure => simp [intOf] <;> omega
    · have z0 : wr.cell? ⟨qb, 0, none⟩ = some nilS := Q.out.cell 0
      have z1 : wr.cell? ⟨qb, 1, none⟩ = some nilS := Q.out.cell 1
      have z2 : wr.frozen? ⟨qb, 0, none⟩ = false := Q.out.free 0
      have z3 : wr.frozen? ⟨qb, 1, none⟩ = false := Q.out.free 1
      unfold nilS at z0 z1
      have FE : Hid (BrE ps x w (.returned (.agg #[.slice A1 m c1, .slice A2 m c2])) ((wr.setCell ⟨qb, 0, none⟩ (.slice A1 m c1)).setCell ⟨qb, 1, none⟩ (.slice A2 m c2))) := by
        have f1 := Fr.setCell wr ⟨qb, 0, none⟩ (.slice A1 m c1)
        have f2 := Fr.setCell (wr.setCell ⟨qb, 0, none⟩ (.slice A1 m c1)) ⟨qb, 1, none⟩ (.slice A2 m c2)
        have ff := f1.trans f2 fun _ _ h => h
        have hrow := B.out.row
        have hwhy := B.out.why
        have hx := N5.out
        rw [HLL.out, rsAt_start] at hx
        have g1 := ff.own hrow fun j hj (e : j = qb) => own_ne hrow Q.out (by decide) (e ▸ hj)
        have g2 := ff.own hwhy fun j hj (e : j = qb) => own_ne hwhy Q.out (by decide) (e ▸ hj)
        rw [← N3.out] at g2
        rw [hx] at g2
        have n2 := N2.out
        have hm := HM.out
        subst hm
        refine ⟨_, _, l, k, rfl, HLL.out, by omega, g1, g2, F.out.trans ff fun j hj (e : j = qb) => ?_⟩
        omega
      have QE : Hid (Blk ((wr.setCell ⟨qb, 0, none⟩ (.slice A1 m c1)).setCell ⟨qb, 1, none⟩ (.slice A2 m c2)) qb 66 #[.slice A1 m c1, .slice A2 m c2]) := (Q.out.set 0 (.slice A1 m c1)).set 1 (.slice A2 m c2)
      go_wp2_with fail
      exact bodyPost_ret (results_cell_row (p := 4) (ty := 66) rfl _ _ qb 66 #[.slice A1 m c1, .slice A2 m c2] (0, 0) _ rfl QE.out Try.underlying66 rfl size66) rfl FE.out
end Go.Proofs.Ythjldlgmfplngaa

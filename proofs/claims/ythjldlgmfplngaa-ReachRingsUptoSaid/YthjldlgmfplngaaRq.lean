/- For ReachRings: rows of rows read; four lists a turn; what is gone on with. -/
import Derived.Test.YthjldlgmfplngaaRrw
import Derived.Test.YthjldlgmfplngaaUpLaw
namespace Go.Mm
open Go.RowKit
section
variable {P : Program} {ops : Array Oper} {o : Oper} {a : Act} {K : Act → World → Prop} {Q : Exit → Act → World → Prop} {E : Prop}
/-- 'append(v, x..)' at a step of a region that draws its order: q elements lie in a box -/
theorem step_apek {W : World} (base : Nat) (hgd : o.guard = none) (s x : Operand) (t e : TypeId) (z : Value) (size bytes : Nat) (cs : Array Value) (gb q : Nat)
    (ho : o.op = .call { callee := .builtin .append, args := #[s, x], argTypes := #[t, t] })
    (ht : P.underlying t = some (.slice e)) (hinfo : (P.info? e).map (fun i => (i.zero, i.size, i.bytes)) = some (some z, size, bytes)) (hzs : z.cells.size = size) (hsz : 0 < size) (hb0 : 0 < bytes)
    (v : Value) (n : Nat) (xs : List Value) (hs : a.eval s = v) (hx : a.eval x = .slice (some ⟨gb, 0, none⟩) q q) (hbox : Blk W gb e cs)
    (hcs : cs.size = q * size) (h1 : ∀ u ∈ cs.toList, u.oneCell' = true)
    (HO : W.ownsRow base e size v n xs) (hbase : base ≤ W.heap.size) (hl : (n + q) * bytes ≤ 140737488355328)
    (h : ∀ v1 w1, w1.ownsRow base e size v1 (n + q) (xs ++ cs.toList) → W.grownBy w1 v.ownBlock → (v1.ownBlock = v.ownBlock ∨ v1.ownBlock = some W.heap.size) → K (a.put o.dst v1) w1) :
    if Region.wanted o (yielded ops a.tmps) = true then Oper.wp P o a W K Q else E := by
  have hw : Region.wanted o (yielded ops a.tmps) = true := by simp [Region.wanted, hgd]
  rw [if_pos hw]
  obtain ⟨i0, hi, hzz⟩ := Option.map_eq_some_iff.1 hinfo
  simp only [Prod.mk.injEq] at hzz
  obtain ⟨hz0, hz1, hz2⟩ := hzz
  have hlen : n + q ≤ 140737488355328 := Nat.le_trans (Nat.le_mul_of_pos_right _ hb0) hl
  have hcells : ∀ j u, cs.toList[j]? = some u → W.cell? ((⟨gb, 0, none⟩ : Addr).add j) = some u := by
    intro j u hu
    rw [add_plain, hbox.cell]
    simpa using hu
  obtain ⟨v1, w1, hr, h2, h3, _, h5⟩ := run_append_own_at (P := P) W base t o.type e i0 z size bytes ht hi hz0 hz1 hz2 hzs hsz v n xs HO ⟨gb, 0, none⟩ q q cs.toList (by simp [hcs]) hcells h1 (by simp only [maxLen]; omega) hl hbase
  unfold Oper.wp execOp
  simp only [ho, resolve, invoke, builtin, Sem.run_bind, Sem.run_pure, Result.andThen_ok, List.map_toArray, List.map_cons, List.map_nil, hs, hx, hr]
  exact h v1 w1 h2 h3 h5
end
end Go.Mm
namespace Go.Proofs.Ythjldlgmfplngaa
open Go.RowKit Go.Mm Go.Maps Go.Reach Go.WideMaps
/-- four a turn -/
def q4 {α : Type} (f g : Nat → α) (z : α) (j : Nat) : List α := [f j, z, g j, z]
def qd {α : Type} (f g : Nat → α) (z : α) (m : Nat) : List α := (List.range m).flatMap (q4 f g z)
section
variable {α : Type} {f g : Nat → α} {z : α} {m : Nat}
theorem q4_len : ∀ j, (q4 f g z j).length = 4 := fun _ => rfl
theorem fm_len {β γ : Type} {h : β → List γ} {sz : Nat} (hf : ∀ x, (h x).length = sz) : ∀ xs : List β, (xs.flatMap h).length = xs.length * sz
  | [] => by simp
  | x :: xs => by rw [List.flatMap_cons, List.length_append, hf, fm_len hf xs, List.length_cons, Nat.succ_mul]; omega
theorem fm_at {β γ : Type} {h : β → List γ} {sz : Nat} (hf : ∀ x, (h x).length = sz) : ∀ {xs : List β} {i j : Nat} {x : β}, xs[i]? = some x → j < sz → (xs.flatMap h)[i * sz + j]? = (h x)[j]?
  | [], _, _, _, hx, _ => by simp at hx
  | y :: xs, 0, j, x, hx, hj => by
    simp at hx
    subst hx
    rw [List.flatMap_cons, Nat.zero_mul, Nat.zero_add, List.getElem?_append_left (by rw [hf]; exact hj)]
  | y :: xs, i + 1, j, x, hx, hj => by
    rw [List.flatMap_cons, Nat.succ_mul, List.getElem?_append_right (by rw [hf]; omega), hf, show i * sz + sz + j - sz = i * sz + j from by omega]
    exact fm_at hf (by simpa using hx) hj
theorem qd_len : (qd f g z m).length = m * 4 := by
  unfold qd
  rw [fm_len q4_len, List.length_range]
theorem qd_succ : qd f g z (m + 1) = qd f g z m ++ [f m, z, g m, z] := by
  unfold qd
  rw [List.range_succ, List.flatMap_append]
  simp [q4]
theorem qd_at {i : Nat} {u : α} (h : (qd f g z m)[i]? = some u) : ∃ j r, i = j * 4 + r ∧ j < m ∧ ((r = 0 ∧ u = f j) ∨ (r = 1 ∧ u = z) ∨ (r = 2 ∧ u = g j) ∨ (r = 3 ∧ u = z)) := by
  have hi := (List.getElem?_eq_some_iff.1 h).1
  rw [qd_len] at hi
  have hj : i / 4 < m := by omega
  have he : i = i / 4 * 4 + i % 4 := by omega
  unfold qd at h
  rw [he, fm_at q4_len (x := i / 4) (by simp [hj]) (Nat.mod_lt _ (by decide))] at h
  refine ⟨i / 4, i % 4, he, hj, ?_⟩
  have hr : i % 4 < 4 := Nat.mod_lt _ (by decide)
  generalize i % 4 = r at h hr
  match r, hr, h with
  | 0, _, h => exact .inl ⟨rfl, by simp [q4] at h; exact h.symm⟩
  | 1, _, h => exact .inr (.inl ⟨rfl, by simp [q4] at h; exact h.symm⟩)
  | 2, _, h => exact .inr (.inr (.inl ⟨rfl, by simp [q4] at h; exact h.symm⟩))
  | 3, _, h => exact .inr (.inr (.inr ⟨rfl, by simp [q4] at h; exact h.symm⟩))
end
/-- the element at a place, else nil -/
def gt (gv : List Value) (j : Nat) : Value := (gv[j]?).getD nilS
theorem gt_at {gv : List Value} {j : Nat} (h : j < gv.length) : gv[j]? = some (gt gv j) := by
  unfold gt
  rw [List.getElem?_eq_getElem h]; rfl
def gl (rs : List (List ByteArray)) (j : Nat) : List ByteArray := (rs[j]?).getD []
theorem gl_at {rs : List (List ByteArray)} {j : Nat} (h : j < rs.length) : rs[j]? = some (gl rs j) := by
  unfold gl
  rw [List.getElem?_eq_getElem h]; rfl
theorem gl_map {rs : List (List ByteArray)} {j : Nat} (h : j < rs.length) : (rs.map strs)[j]? = some (strs (gl rs j)) := by
  rw [List.getElem?_map, gl_at h]; rfl
/-- the two families told, one beside the other, against what was to be told -/
theorem rings_apin {b0 b2 b3 bb m cg cw : Nat} {Ag Aw : Option Addr} {gv1 gv2 gvw : List Value} {rs : List (List ByteArray)} {w : World}
    (F1 : Fam b2 9 w gv1 (rs.map strs)) (F2 : Fam b3 9 w gv2 (rs.map strs)) (h1 : ∀ u ∈ gv1, ∀ b, u.ownBlock = some b → b < b3) (h23 : b2 ≤ b3)
    (Fw : Fam b0 9 w gvw (rs.map strs)) (hw : ∀ u ∈ gvw, ∀ b, u.ownBlock = some b → b < b2) (hm : rs.length = m)
    (og : w.ownsRow bb 33 1 (.slice Ag (m * 4) cg) (m * 4) (qd (gt gv1) (gt gv2) nilS m)) (ow : w.ownsRow bb 33 1 (.slice Aw (m * 4) cw) (m * 4) (qd (gt gvw) (gt gvw) nilS m)) :
    ApIn b2 9 (m * 4) Ag Aw (qd (gt gv1) (gt gv2) nilS m) (qd (gt gvw) (gt gvw) nilS m) ((qd (gl rs) (gl rs) [] m).map strs) w ∧ (∀ b, Sg (qd (gt gv1) (gt gv2) nilS m) b → b2 ≤ b) ∧ ∀ b, Sg (qd (gt gv1) (gt gv2) nilS m) b → ∃ v n xs, w.ownsRow b2 9 1 v n xs ∧ v.ownBlock = some b := by
  have l1 : gv1.length = m := by rw [F1.len, List.length_map, hm]
  have l2 : gv2.length = m := by rw [F2.len, List.length_map, hm]
  have lw : gvw.length = m := by rw [Fw.len, List.length_map, hm]
  have nil0 : ∀ base, w.ownsRow base 9 1 nilS 0 [] := fun base => ⟨rfl, .inl ⟨rfl, rfl⟩⟩
  have own : ∀ (i : Nat) (v : Value) (xs : List Value), (qd (gt gv1) (gt gv2) nilS m)[i]? = some v → ((qd (gl rs) (gl rs) [] m).map strs)[i]? = some xs → w.ownsRow b2 9 1 v xs.length xs := by
    intro i v xs hv hx
    rw [List.getElem?_map, Option.map_eq_some_iff] at hx
    obtain ⟨l, hx, rfl⟩ := hx
    obtain ⟨j, r, hi, hj, hvr⟩ := qd_at hv
    obtain ⟨j', r', hi', hj', hxr⟩ := qd_at hx
    have hr : r < 4 := by rcases hvr with h | h | h | h <;> omega
    have hr' : r' < 4 := by rcases hxr with h | h | h | h <;> omega
    obtain rfl : j = j' := by omega
    obtain rfl : r = r' := by omega
    rcases hvr with ⟨h, rfl⟩ | ⟨h, rfl⟩ | ⟨h, rfl⟩ | ⟨h, rfl⟩ <;> rcases hxr with ⟨h', rfl⟩ | ⟨h', rfl⟩ | ⟨h', rfl⟩ | ⟨h', rfl⟩ <;> first | omega | skip
    · exact F1.own j _ _ (gt_at (by omega)) (gl_map (by omega))
    · exact nil0 _
    · exact own_mono (F2.own j _ _ (gt_at (by omega)) (gl_map (by omega))) h23
    · exact nil0 _
  have blk : ∀ (i : Nat) (v : Value), (qd (gt gv1) (gt gv2) nilS m)[i]? = some v → ∃ n xs, w.ownsRow b2 9 1 v n xs := by
    intro i v hv
    have hi := (List.getElem?_eq_some_iff.1 hv).1
    rw [qd_len] at hi
    have hl : ((qd (gl rs) (gl rs) [] m).map strs).length = m * 4 := by rw [List.length_map, qd_len]
    exact ⟨_, _, own i v _ hv (List.getElem?_eq_getElem (by rw [hl]; exact hi))⟩
  have sg : ∀ b, Sg (qd (gt gv1) (gt gv2) nilS m) b → ∃ v n xs, w.ownsRow b2 9 1 v n xs ∧ v.ownBlock = some b := by
    rintro b ⟨u, hu, hb⟩
    obtain ⟨i, hi⟩ := List.getElem?_of_mem hu
    obtain ⟨n, xs, ho⟩ := blk i u hi
    exact ⟨u, n, xs, ho, hb⟩
  have sgb : ∀ b, Sg (qd (gt gv1) (gt gv2) nilS m) b → b2 ≤ b := fun b hb => by
    obtain ⟨v, n, xs, ho, hb⟩ := sg b hb
    exact (own_lt ho hb).1
  refine ⟨⟨qd_len, qd_len, by rw [List.length_map, qd_len], Rd.of_own og, Rd.of_own ow, own, ?_, ?_, ?_, ?_⟩, sgb, sg⟩
  · intro i v xs hv hx
    rw [List.getElem?_map, Option.map_eq_some_iff] at hx
    obtain ⟨l, hx, rfl⟩ := hx
    obtain ⟨j, r, hi, hj, hvr⟩ := qd_at hv
    obtain ⟨j', r', hi', hj', hxr⟩ := qd_at hx
    have hr : r < 4 := by rcases hvr with h | h | h | h <;> omega
    have hr' : r' < 4 := by rcases hxr with h | h | h | h <;> omega
    obtain rfl : j = j' := by omega
    obtain rfl : r = r' := by omega
    have key : ∃ A c, gt gvw j = .slice A (strs (gl rs j)).length c ∧ (strs (gl rs j)).length ≤ c ∧ Rd w A (strs (gl rs j)).length 1 (strs (gl rs j)) ∧ ∀ ad, A = some ad → ¬ Sg (qd (gt gv1) (gt gv2) nilS m) ad.block := by
      have ho := Fw.own j _ _ (gt_at (by omega)) (gl_map (by omega))
      obtain ⟨A, c, e1, e2, e3, e4⟩ := own_slice ho
      refine ⟨A, c, e1, e2, e4, fun ad hA hs => ?_⟩
      have h5 := hw _ (List.mem_of_getElem? (gt_at (gv := gvw) (by omega))) _ (e3 ad hA)
      have := sgb _ hs
      omega
    have keyn : ∃ A c, nilS = .slice A (strs ([] : List ByteArray)).length c ∧ (strs ([] : List ByteArray)).length ≤ c ∧ Rd w A (strs ([] : List ByteArray)).length 1 (strs ([] : List ByteArray)) ∧ ∀ ad, A = some ad → ¬ Sg (qd (gt gv1) (gt gv2) nilS m) ad.block :=
      ⟨none, 0, rfl, Nat.le_refl _, ⟨rfl, fun h => absurd h (Nat.lt_irrefl _)⟩, fun _ h => by cases h⟩
    rcases hvr with ⟨h, rfl⟩ | ⟨h, rfl⟩ | ⟨h, rfl⟩ | ⟨h, rfl⟩ <;> rcases hxr with ⟨h', rfl⟩ | ⟨h', rfl⟩ | ⟨h', rfl⟩ | ⟨h', rfl⟩ <;> first | omega | skip
    all_goals first | exact key | exact keyn
  · intro i i' u v b hne hu hv hb hb'
    obtain ⟨j, r, hi, hj, hur⟩ := qd_at hu
    obtain ⟨j', r', hi', hj', hvr⟩ := qd_at hv
    have n1 : ∀ j, j < m → gv1[j]? = some (gt gv1 j) := fun j hj => gt_at (by omega)
    have n2 : ∀ j, j < m → gv2[j]? = some (gt gv2 j) := fun j hj => gt_at (by omega)
    rcases hur with ⟨h, rfl⟩ | ⟨h, rfl⟩ | ⟨h, rfl⟩ | ⟨h, rfl⟩
    · rcases hvr with ⟨h', rfl⟩ | ⟨h', rfl⟩ | ⟨h', rfl⟩ | ⟨h', rfl⟩
      · exact F1.dis j j' _ _ b (by omega) (n1 j hj) (n1 j' hj') hb hb'
      · cases hb'
      · have e1 := h1 _ (List.mem_of_getElem? (n1 j hj)) b hb
        have e2 := (F2.blk _ (List.mem_of_getElem? (n2 j' hj')) b hb').1
        omega
      · cases hb'
    · cases hb
    · rcases hvr with ⟨h', rfl⟩ | ⟨h', rfl⟩ | ⟨h', rfl⟩ | ⟨h', rfl⟩
      · have e1 := h1 _ (List.mem_of_getElem? (n1 j' hj')) b hb'
        have e2 := (F2.blk _ (List.mem_of_getElem? (n2 j hj)) b hb).1
        omega
      · cases hb'
      · exact F2.dis j j' _ _ b (by omega) (n2 j hj) (n2 j' hj') hb hb'
      · cases hb'
    · cases hb
  · rintro ad hA hs
    obtain ⟨v, n, xs, ho, hb⟩ := sg _ hs
    refine own_own_ne ho og (by decide) hb ?_
    rw [hA]
    rfl
  · rintro ad hA hs
    obtain ⟨v, n, xs, ho, hb⟩ := sg _ hs
    refine own_own_ne ho ow (by decide) hb ?_
    rw [hA]
    rfl
/-- rows of rows that are read: they lie in blocks from lo up to hi -/
structure RRd (lo hi : Nat) (w : World) (A : Option Addr) (m : Nat) (rs : List (List ByteArray)) : Prop where mk ::
  out : ∃ gv : List Value, gv.length = m ∧ Rd w A m 1 gv ∧ (∀ ad, A = some ad → lo ≤ ad.block ∧ ad.block < hi) ∧ ∀ (i : Nat) (u : Value) (l : List ByteArray), gv[i]? = some u → rs[i]? = some l → ∃ Al cl, u = .slice Al l.length cl ∧ l.length ≤ cl ∧ Rd w Al l.length 1 (strs l) ∧ ∀ ad, Al = some ad → lo ≤ ad.block ∧ ad.block < hi
section
variable {lo hi m c base : Nat} {w w1 : World} {A : Option Addr} {gv : List Value} {rs : List (List ByteArray)} {S : Nat → Prop}
theorem RRd.of (h : RwB base (.slice A m c) m gv (rs.map strs) w) : RRd base w.heap.size w A m rs := by
  refine ⟨gv, own_len h.own, Rd.of_own h.own, fun ad hA => own_lt h.own (by rw [hA]; rfl), fun i u l hu hl => ?_⟩
  have ho := h.fam.own i u (strs l) hu (by rw [List.getElem?_map, hl]; rfl)
  rw [strs_len] at ho
  obtain ⟨Al, cl, e1, e2, e3, e4⟩ := own_slice ho
  exact ⟨Al, cl, e1, e2, e4, fun ad hA => own_lt ho (e3 ad hA)⟩
theorem RRd.fr (h : RRd lo hi w A m rs) (hf : Fr S w w1) (hS : ∀ k, lo ≤ k → k < hi → ¬ S k) : RRd lo hi w1 A m rs := by
  obtain ⟨gv, h1, h2, h3, h4⟩ := h.out
  refine ⟨gv, h1, hf.rd h2 fun ad hA => hS _ (h3 ad hA).1 (h3 ad hA).2, h3, fun i u l hu hl => ?_⟩
  obtain ⟨Al, cl, e1, e2, e3, e4⟩ := h4 i u l hu hl
  exact ⟨Al, cl, e1, e2, hf.rd e3 fun ad hA => hS _ (e4 ad hA).1 (e4 ad hA).2, e4⟩
theorem RRd.at (h : RRd lo hi w A m rs) {i : Nat} {l : List ByteArray} (hi : i < m) (hl : rs[i]? = some l) : ∃ ad Al cl, A = some ad ∧ w.cell? (ad.add i) = some (.slice Al l.length cl) ∧ l.length ≤ cl ∧ Rd w Al l.length 1 (strs l) := by
  obtain ⟨gv, h1, h2, h3, h4⟩ := h.out
  obtain ⟨u, hu⟩ : ∃ u, gv[i]? = some u := ⟨_, List.getElem?_eq_getElem (by rw [h1]; exact hi)⟩
  obtain ⟨Al, cl, rfl, e2, e3, e4⟩ := h4 i u l hu hl
  obtain ⟨ad, hA, _, hc⟩ := h2.cell hu
  exact ⟨ad, Al, cl, hA, hc, e2, e3⟩
end
/-- the places behind: each a list of one name -/
def Tl (w : World) (m i : Nat) (s : ByteArray) (xs : List Value) : Prop := ∀ k, k < i → ∃ b, xs[m + k]? = some (.slice (some ⟨b, 0, none⟩) 1 1) ∧ Blk w b 9 #[.string s]
theorem Tl.fr {w w1 : World} {m i : Nat} {s : ByteArray} {xs : List Value} {S : Nat → Prop} (h : Tl w m i s xs) (hf : Fr S w w1) (hS : ∀ b cs, Blk w b 9 cs → ¬ S b) : Tl w1 m i s xs := fun k hk => by
  obtain ⟨b, h1, h2⟩ := h k hk
  exact ⟨b, h1, hf.blk h2 (hS b _ h2)⟩
theorem Tl.snoc {w w1 : World} {m i b : Nat} {s : ByteArray} {xs : List Value} {S : Nat → Prop} (h : Tl w m i s xs) (hn : xs.length = m + i) (hf : Fr S w w1) (hS : ∀ b cs, Blk w b 9 cs → ¬ S b) (hb : Blk w1 b 9 #[.string s]) : Tl w1 m (i + 1) s (xs ++ [.slice (some ⟨b, 0, none⟩) 1 1]) := fun k hk => by
  rcases Nat.lt_or_ge k i with h' | h'
  · obtain ⟨b', h1, h2⟩ := h.fr hf hS k h'
    exact ⟨b', by rw [List.getElem?_append_left (by omega)]; exact h1, h2⟩
  · obtain rfl : k = i := by omega
    exact ⟨b, by rw [List.getElem?_append_right (by omega), hn, Nat.sub_self]; rfl, hb⟩
/-- two rows that are gone on with -/
structure AddR (base m i1 i2 : Nat) (s1 s2 : ByteArray) (v1 v2 : Value) (w0 w : World) : Prop where mk ::
  out : ∃ xs1 xs2, w.ownsRow base 33 1 v1 (m + i1) xs1 ∧ w.ownsRow base 33 1 v2 (m + i2) xs2 ∧ (∀ b, v1.ownBlock = some b → v2.ownBlock ≠ some b) ∧ Tl w m i1 s1 xs1 ∧ Tl w m i2 s2 xs2 ∧ Below base w0 w
theorem AddR.swap {base m i1 i2 : Nat} {s1 s2 : ByteArray} {v1 v2 : Value} {w0 w : World} (h : AddR base m i1 i2 s1 s2 v1 v2 w0 w) : AddR base m i2 i1 s2 s1 v2 v1 w0 w := by
  obtain ⟨xs1, xs2, o1, o2, d, t1, t2, b⟩ := h.out
  exact ⟨xs2, xs1, o2, o1, fun b hb hb' => d b hb' hb, t2, t1, b⟩
/-- one more behind the first -/
theorem AddR.push {base m i1 i2 : Nat} {s1 s2 : ByteArray} {v1 v2 v1' : Value} {w0 w wa : World} {xs1 xs2 : List Value} (o1 : w.ownsRow base 33 1 v1 (m + i1) xs1) (o2 : w.ownsRow base 33 1 v2 (m + i2) xs2) (d : ∀ b, v1.ownBlock = some b → v2.ownBlock ≠ some b) (t1 : Tl w m i1 s1 xs1) (t2 : Tl w m i2 s2 xs2)
    (k1 : wa.ownsRow base 33 1 v1' (m + i1 + 1) (xs1 ++ [.slice (some ⟨w.heap.size, 0, none⟩) 1 1])) (k2 : Below base w0 wa) (k3 : (w.alloc (.cells #[.string s1] 9)).grownBy wa v1.ownBlock) (k4 : v1'.ownBlock = v1.ownBlock ∨ ∃ b, v1'.ownBlock = some b ∧ (w.alloc (.cells #[.string s1] 9)).heap.size ≤ b) :
    AddR base m (i1 + 1) i2 s1 s2 v1' v2 w0 wa := by
  have f0 : Fr (fun k => v1.ownBlock = some k) w (w.alloc (.cells #[.string s1] 9)) := Fr.alloc _ w _
  have f1 : Fr (fun k => v1.ownBlock = some k) (w.alloc (.cells #[.string s1] 9)) wa := Fr.grown k3
  have f := f0.trans f1 fun _ _ h => h
  have hS : ∀ b cs, Blk w b 9 cs → ¬ v1.ownBlock = some b := fun b cs hb => own_ne o1 hb (by decide)
  have hsz : (w.alloc (.cells #[.string s1] 9)).heap.size = w.heap.size + 1 := by simp
  have bx : Blk wa w.heap.size 9 #[.string s1] := f1.blk (Blk.new w _ _) fun e => by
    have := (own_lt o1 e).2
    omega
  refine ⟨_, _, by rw [← Nat.add_assoc]; exact k1, f.own o2 fun b hb hb' => d b hb' hb, fun b hb hb' => ?_, t1.snoc (own_len o1) f hS bx, t2.fr f hS, k2⟩
  rcases k4 with e | ⟨b', e, h⟩
  · exact d b (e ▸ hb) hb'
  · rw [e] at hb
    injection hb with hb
    have := (own_lt o2 hb').2
    omega
end Go.Proofs.Ythjldlgmfplngaa

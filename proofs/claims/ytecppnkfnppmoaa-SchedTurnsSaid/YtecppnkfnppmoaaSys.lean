/- Counters and machines that stand beside one another; lists told of them, and the boxes that hold those. -/
import Derived.Test.YtecppnkfnppmoaaClone
import Derived.Test.YtecppnkfnppmoaaFam2
import Derived.Deep.DeepMust
import Derived.Test.YtecppnkfnppmoaaSame
namespace Go.Proofs.Ytecppnkfnppmoaa
open Go.RowKit Go.Mm
/-- a struct with a row of numbers -/
structure Rec where mk ::
  t : TypeId
  g : Nat
  cs : Value → Array Value
  v : Value
  ts : List Int
def Rec.Bk (r : Rec) (k : Nat) : Prop := k = r.g ∨ r.v.ownBlock = some k
structure Ob (base : Nat) (w : World) (r : Rec) : Prop where mk ::
  blk : Blk w r.g r.t (r.cs r.v)
  own : w.ownsRow base 3 1 r.v r.ts.length (iL r.ts)
  low : base ≤ r.g
theorem Ob.lt {base : Nat} {w : World} {r : Rec} (h : Ob base w r) {k : Nat} (hk : r.Bk k) : base ≤ k ∧ k < w.heap.size := by
  rcases hk with rfl | hk
  · exact ⟨h.low, h.blk.lt⟩
  · exact own_lt h.own hk
theorem Ob.fr {base : Nat} {w w' : World} {r : Rec} {T : Nat → Prop} (h : Ob base w r) (f : Fr T w w') (hT : ∀ k, r.Bk k → ¬ T k) : Ob base w' r :=
  ⟨f.blk h.blk (hT _ (.inl rfl)), f.own h.own (fun _ hb => hT _ (.inr hb)), h.low⟩
structure Sys (base : Nat) (w0 w : World) (L : List Rec) : Prop where mk ::
  ob : ∀ (i : Nat) (r : Rec), L[i]? = some r → Ob base w r
  dis : ∀ (i j : Nat) (r s : Rec), i ≠ j → L[i]? = some r → L[j]? = some s → ∀ k, r.Bk k → ¬ s.Bk k
  bel : Below base w0 w
  low : base ≤ w.heap.size
theorem Sys.nil (w : World) : Sys w.heap.size w w [] := ⟨(fun _ _ h => by simp at h), (fun _ _ _ _ _ h => by simp at h), Below.refl _ _, Nat.le_refl _⟩
theorem get_snoc {α : Type} {l : List α} {x y : α} {i : Nat} (h : (l ++ [x])[i]? = some y) : (i < l.length ∧ l[i]? = some y) ∨ (i = l.length ∧ y = x) := by
  by_cases hi : i < l.length
  · rw [List.getElem?_append_left hi] at h; exact .inl ⟨hi, h⟩
  · have := (List.getElem?_eq_some_iff.1 h).1
    simp at this
    rw [List.getElem?_append_right (by omega)] at h
    have e : i - l.length = 0 := by omega
    rw [e] at h; simp at h
    exact .inr ⟨by omega, h.symm⟩
section
variable {base : Nat} {w0 w w' : World} {L : List Rec}
theorem Sys.lt (h : Sys base w0 w L) {i : Nat} {r : Rec} (hr : L[i]? = some r) {k : Nat} (hk : r.Bk k) : base ≤ k ∧ k < w.heap.size := (h.ob i r hr).lt hk
theorem Sys.below (h : Sys base w0 w L) (f : Below w.heap.size w w') : Sys base w0 w' L :=
  ⟨fun i r hr => (h.ob i r hr).fr (Fr.of_below f) (fun _ _ h => h), h.dis, h.bel.trans (f.mono h.low), Nat.le_trans h.low f.size⟩
theorem Sys.snoc (h : Sys base w0 w L) (t : TypeId) (cs : Value → Array Value) : Sys base w0 (w.alloc (.cells (cs (.slice none 0 0)) t)) (L ++ [⟨t, w.heap.size, cs, .slice none 0 0, []⟩]) := by
  have h1 := h.below (Below.alloc (Below.refl w.heap.size w) (Nat.le_refl _) (.cells (cs (.slice none 0 0)) t))
  have hn : ∀ k, Rec.Bk ⟨t, w.heap.size, cs, .slice none 0 0, []⟩ k → k = w.heap.size := by
    rintro k (rfl | hk)
    · rfl
    · cases hk
  refine ⟨fun i r hr => ?_, fun i j r s hij hr hs k hk hk' => ?_, h1.bel, h1.low⟩
  · rcases get_snoc hr with ⟨_, hr⟩ | ⟨_, rfl⟩
    · exact h1.ob i r hr
    · exact ⟨Blk.new _ _ _, ⟨by simp [iL], .inl ⟨rfl, rfl⟩⟩, h.low⟩
  · rcases get_snoc hr with ⟨_, hr⟩ | ⟨e1, rfl⟩ <;> rcases get_snoc hs with ⟨_, hs⟩ | ⟨e2, rfl⟩
    · exact h.dis i j r s hij hr hs k hk hk'
    · have := (h.lt hr hk).2; have := hn k hk'; omega
    · have := (h.lt hs hk').2; have := hn k hk; omega
    · omega
theorem Sys.step {i : Nat} {r : Rec} {cs' : Value → Array Value} {ts' : List Int} {b : Bool} {e : Ending} (h : Sys base w0 w L) (hr : L[i]? = some r) (k : StepEnds r.t cs' base r.g r.v ts' b w e w') : e = .returned (.bool b) ∧ ∃ v1, Sys base w0 w' (L.set i ⟨r.t, r.g, cs', v1, ts'⟩) := by
  obtain ⟨rfl, v1, k1, k2, k3, k4⟩ := k
  have hi := (List.getElem?_eq_some_iff.1 hr).1
  have hbk : ∀ k, Rec.Bk ⟨r.t, r.g, cs', v1, ts'⟩ k → r.Bk k ∨ w.heap.size ≤ k := by
    rintro k (hk | hk)
    · exact .inl (.inl hk)
    · rcases k3 with k3 | ⟨b, k3, k5⟩
      · exact .inl (.inr (by rw [← k3]; exact hk))
      · rw [show Rec.v ⟨r.t, r.g, cs', v1, ts'⟩ = v1 from rfl, k3] at hk
        injection hk with hk; exact .inr (hk ▸ k5)
  have hset : ∀ (j : Nat) (s : Rec), (L.set i ⟨r.t, r.g, cs', v1, ts'⟩)[j]? = some s → (j = i ∧ s = ⟨r.t, r.g, cs', v1, ts'⟩) ∨ (j ≠ i ∧ L[j]? = some s) := by
    intro j s hs
    rw [List.getElem?_set] at hs
    by_cases e : i = j
    · rw [if_pos e, if_pos (by omega)] at hs
      injection hs with hs; exact .inl ⟨e.symm, hs.symm⟩
    · rw [if_neg e] at hs; exact .inr ⟨fun h => e h.symm, hs⟩
  refine ⟨rfl, v1, fun j s hs => ?_, fun j l s t hjl hs ht k hk hk' => ?_, h.bel.trans (k4.below (fun k hk => ?_) h.low), Nat.le_trans h.low k4.size⟩
  · rcases hset j s hs with ⟨_, rfl⟩ | ⟨hj, hs⟩
    · exact ⟨k1, k2, (h.ob i r hr).low⟩
    · exact (h.ob j s hs).fr k4 fun k hk hT => h.dis i j r s (fun h => hj h.symm) hr hs k hT hk
  · rcases hset j s hs with ⟨_, rfl⟩ | ⟨hj, hs⟩ <;> rcases hset l t ht with ⟨_, rfl⟩ | ⟨hl, ht⟩
    · omega
    · rcases hbk k hk with hk | hk
      · exact h.dis i l r t (fun h => hl h.symm) hr ht k hk hk'
      · have := (h.lt ht hk').2; omega
    · rcases hbk k hk' with hk' | hk'
      · exact h.dis j i s r hj hs hr k hk hk'
      · have := (h.lt hs hk).2; omega
    · exact h.dis j l s t hjl hs ht k hk hk'
  · exact ((h.ob i r hr).lt hk).1
end
/-- what a step notes, and what it answers -/
def stp (last : Int) (ts : List Int) (now : Int) : List Int := if (ts.length : Int) < last then ts ++ [now] else ts
def ans (last : Int) (ts : List Int) : Bool := if (ts.length : Int) < last then decide ((ts.length : Int) + 1 = last) else true
theorem stp_le {last : Int} {ts : List Int} {now : Int} (h : (ts.length : Int) ≤ last) : ((stp last ts now).length : Int) ≤ last ∧ (stp last ts now).length ≤ ts.length + 1 := by
  unfold stp; split <;> simp <;> omega
theorem ctr_step (base g : Nat) (last now : Int) (v : Value) (ts : List Int) (w : World) (h : Ob base w ⟨72, g, fun v => #[.int .i64 last, v], v, ts⟩) (hB : base ≤ w.heap.size) (hl : (ts.length : Int) ≤ last) (hn : (ts.length + 1) * 8 ≤ 140737488355328) :
    Calls Try.prog 20 #[.pointer (some ⟨g, 0, none⟩), .int .i64 now] w (StepEnds 72 (fun v => #[.int .i64 last, v]) base g v (stp last ts now) (ans last ts) w) := by
  unfold stp ans
  by_cases hlt : (ts.length : Int) < last
  · rw [if_pos hlt, if_pos hlt]; exact ctr_step_notes base g last now v ts ts.length w h.blk rfl h.own hB hlt hn
  · rw [if_neg hlt, if_neg hlt]; exact ctr_step_full base g last now v ts ts.length w h.blk rfl h.own (by omega)
theorem mach_step (base g : Nat) (last now : Int) (v : Value) (ts : List Int) (w : World) (h : Ob base w ⟨35, g, fun v => #[.int .i64 last, .bool false, v], v, ts⟩) (hB : base ≤ w.heap.size) (_ : 1 ≤ last) (hl : (ts.length : Int) ≤ last) (hn : (ts.length + 1) * 8 ≤ 140737488355328) :
    Calls Try.prog 19 #[.pointer (some ⟨g, 0, none⟩), .int .i64 now] w (StepEnds 35 (fun v => #[.int .i64 last, .bool false, v]) base g v (stp last ts now) (ans last ts) w) := by
  unfold stp ans
  by_cases hlt : (ts.length : Int) < last
  · rw [if_pos hlt, if_pos hlt]
    have := mach_step_no base g last now v ts ts.length w h.blk rfl h.own hB hlt hn
    rwa [show decide (1 ≤ last ∧ last ≤ (ts.length : Int) + 1) = decide ((ts.length : Int) + 1 = last) from decide_eq_decide.2 (by omega)] at this
  · rw [if_neg hlt, if_neg hlt]; exact mach_step_full base g last now v ts ts.length w h.blk rfl h.own (by omega)
/-- lists told, one by one, and boxes, while the things stand -/
structure TS (base : Nat) (w0 : World) (L : List Rec) (b1 : Nat) (w1 : World) (W : World) (gv : List Value) (ls : List (List Value)) (bx : List (Nat × Array Value)) : Prop where mk ::
  sys : Sys base w0 W L
  first : Sys base w0 w1 L ∧ w1.heap.size = b1
  fam : Fam b1 3 W gv ls
  bel : Below b1 w1 W
  box : ∀ p ∈ bx, Blk W p.1 22 p.2
section
variable {base b1 : Nat} {w0 w1 W W' : World} {L : List Rec} {gv : List Value} {ls : List (List Value)} {bx : List (Nat × Array Value)}
theorem TS.begin (h : Sys base w0 w1 L) : TS base w0 L w1.heap.size w1 w1 [] [] [] := ⟨h, ⟨h, rfl⟩, Fam.nil _ _ _ (Nat.le_refl _), Below.refl _ _, fun _ h => by cases h⟩
theorem TS.below (h : TS base w0 L b1 w1 W gv ls bx) (f : Below W.heap.size W W') : TS base w0 L b1 w1 W' gv ls bx :=
  ⟨h.sys.below f, h.first, h.fam.below f, h.bel.trans (f.mono h.fam.low), fun p hp => (Fr.of_below f).blk (h.box p hp) (fun h => h)⟩
theorem TS.drew (h : TS base w0 L b1 w1 W gv ls bx) : TS base w0 L b1 w1 W.drew gv ls bx := h.below ((Fr.drew (fun _ => False) W).below (fun _ h => h.elim) (Nat.le_refl _))
theorem TS.laid (h : TS base w0 L b1 w1 W gv ls bx) (cs : Array Value) : TS base w0 L b1 w1 (W.alloc (.cells cs 22)) gv ls ((W.heap.size, cs) :: bx) := by
  have h1 := h.below (Below.alloc (Below.refl W.heap.size W) (Nat.le_refl _) (.cells cs 22))
  refine ⟨h1.sys, h1.first, h1.fam, h1.bel, fun p hp => ?_⟩
  rcases List.mem_cons.1 hp with rfl | hp
  · exact Blk.new _ _ _
  · exact h1.box p hp
theorem TS.laid2 (h : TS base w0 L b1 w1 W gv ls bx) (cs cs' : Array Value) : TS base w0 L b1 w1 ((W.alloc (.cells cs 22)).alloc (.cells cs' 22)) gv ls ((W.heap.size + 1, cs') :: (W.heap.size, cs) :: bx) := by
  have h1 := (h.laid cs).laid cs'
  rwa [show (W.alloc (.cells cs 22)).heap.size = W.heap.size + 1 from by simp] at h1
theorem TS.times (h : TS base w0 L b1 w1 W gv ls bx) (i g : Nat) (last : Int) (v : Value) (ts : List Int) (hr : L[i]? = some ⟨72, g, fun v => #[.int .i64 last, v], v, ts⟩) (hn : ts.length * 8 ≤ 140737488355328) :
    Calls Try.prog 21 #[.pointer (some ⟨g, 0, none⟩)] W fun e w' => ∃ A m c, e = .returned (.slice A m c) ∧ TS base w0 L b1 w1 w' (gv ++ [.slice A m c]) (ls ++ [iL ts]) bx := by
  have o := h.sys.ob i _ hr
  refine (times_any base g last v ts ts.length W o.blk rfl o.own hn).mono ?_
  rintro e w' ⟨A, m, c, rfl, _, k⟩
  obtain ⟨k1, k2, k3⟩ := k.out
  have h1 := h.below k3
  exact ⟨A, m, c, rfl, h1.sys, h1.first, h.fam.snoc k3 (by rw [iL_len, k1]; exact k2), h1.bel, h1.box⟩
theorem TS.cell (h : TS base w0 L b1 w1 W gv ls bx) (i j : Nat) (r : Rec) (hr : L[i]? = some r) {u : Value} (hu : (r.cs r.v)[j]? = some u) : W.cell? ⟨r.g, j, none⟩ = some u := by
  have := ((h.sys.ob i r hr).blk).cell j
  rw [this]; exact hu
theorem Rd.of_blk {w : World} {g t : Nat} {cs : Array Value} {n : Nat} (h : Blk w g t cs) (hn : cs.size = n) : Rd w (some ⟨g, 0, none⟩) n 1 cs.toList := by
  refine ⟨by simp [hn], fun _ => ⟨_, rfl, h.lt, fun j u hu => ?_⟩⟩
  rw [add_plain]
  have := h.cell j
  rw [this]
  simpa using hu
theorem TS.apart (h : TS base w0 L b1 w1 W gv ls bx) (m bg bw : Nat) (wcs : Array Value) (zss : List (List Int)) (hm : m ≤ 1000000) (hg : (bg, gv.toArray) ∈ bx) (hw : (bw, wcs) ∈ bx) (hgl : gv.length = m) (hwl : wcs.size = m) (hls : ls = zss.map iL)
    (hz : ∀ zs ∈ zss, zs.length ≤ 17592186044404) (hwant : ∀ (i : Nat) (v : Value) (zs : List Int), wcs.toList[i]? = some v → zss[i]? = some zs → ∃ (j : Nat) (r : Rec), L[j]? = some r ∧ v = r.v ∧ zs = r.ts) :
    Calls Try.prog 15 #[.slice (some ⟨bg, 0, none⟩) m m, .slice (some ⟨bw, 0, none⟩) m m] W fun e w' => e = .returned (.bool true) ∧ Sys base w0 w' L := by
  have kg := h.box _ hg
  have kw := h.box _ hw
  have gs : gv.toArray.size = m := by rw [← hgl]; simp
  subst hls
  have ap : ApIn b1 3 m (some ⟨bg, 0, none⟩) (some ⟨bw, 0, none⟩) gv wcs.toList (zss.map iL) W := ApIn.of h.fam hgl (by simpa using hwl) (Rd.of_blk kg gs) (Rd.of_blk kw hwl) (fun ad e => by cases e; exact ⟨22, _, by decide, kg⟩) (fun ad e => by cases e; exact ⟨22, _, by decide, kw⟩) (fun i v xs hv hx => by
    rw [List.getElem?_map] at hx
    obtain ⟨zs, hzs, rfl⟩ := Option.map_eq_some_iff.1 hx
    obtain ⟨j, r, hr, rfl, rfl⟩ := hwant i v zs hv hzs
    have w1' : Want b1 w1 r.v (iL r.ts) := Want.of_own (h.first.1.ob j r hr).own (by rw [iL_len]) (Nat.le_of_eq h.first.2)
    have b1' := h.bel
    rw [← h.first.2] at b1'
    exact (w1'.below b1').out)
  refine (apart_true b1 m _ _ m m gv wcs.toList zss W ap hm hz h.fam.low (Nat.le_refl _) (Nat.le_refl _)).mono ?_
  rintro e w' ⟨rfl, f⟩
  refine ⟨rfl, ?_⟩
  have hl : ∀ g, Sg gv g → b1 ≤ g := fun g ⟨u, hu, hg⟩ => (h.fam.blk u hu g hg).1
  have hb := (h.bel.trans (f.below hl h.fam.low))
  rw [← h.first.2] at hb
  exact h.first.1.below hb
theorem TS.apart4 {g1 g2 g3 g4 : Value} {z1 z2 z3 z4 : List Int} (h : TS base w0 L b1 w1 W ([] ++ [g1] ++ [g2] ++ [g3] ++ [g4]) ([] ++ [iL z1] ++ [iL z2] ++ [iL z3] ++ [iL z4]) bx) (bg bw : Nat) (wcs : Array Value) (hg : (bg, #[g1, g2, g3, g4]) ∈ bx) (hw : (bw, wcs) ∈ bx) (hwl : wcs.size = 4)
    (hz : ∀ zs ∈ [z1, z2, z3, z4], zs.length ≤ 17592186044404) (hwant : ∀ (i : Nat) (v : Value) (zs : List Int), wcs.toList[i]? = some v → [z1, z2, z3, z4][i]? = some zs → ∃ (j : Nat) (r : Rec), L[j]? = some r ∧ v = r.v ∧ zs = r.ts) :
    Calls Try.prog 15 #[.slice (some ⟨bg, 0, none⟩) 4 4, .slice (some ⟨bw, 0, none⟩) 4 4] W fun e w' => e = .returned (.bool true) ∧ Sys base w0 w' L :=
  h.apart 4 bg bw wcs [z1, z2, z3, z4] (by decide) hg hw rfl hwl rfl hz hwant
theorem TS.apart6 {g1 g2 g3 g4 g5 g6 : Value} {z1 z2 z3 z4 z5 z6 : List Int} (h : TS base w0 L b1 w1 W ([] ++ [g1] ++ [g2] ++ [g3] ++ [g4] ++ [g5] ++ [g6]) ([] ++ [iL z1] ++ [iL z2] ++ [iL z3] ++ [iL z4] ++ [iL z5] ++ [iL z6]) bx) (bg bw : Nat) (wcs : Array Value) (hg : (bg, #[g1, g2, g3, g4, g5, g6]) ∈ bx) (hw : (bw, wcs) ∈ bx) (hwl : wcs.size = 6)
    (hz : ∀ zs ∈ [z1, z2, z3, z4, z5, z6], zs.length ≤ 17592186044404) (hwant : ∀ (i : Nat) (v : Value) (zs : List Int), wcs.toList[i]? = some v → [z1, z2, z3, z4, z5, z6][i]? = some zs → ∃ (j : Nat) (r : Rec), L[j]? = some r ∧ v = r.v ∧ zs = r.ts) :
    Calls Try.prog 15 #[.slice (some ⟨bg, 0, none⟩) 6 6, .slice (some ⟨bw, 0, none⟩) 6 6] W fun e w' => e = .returned (.bool true) ∧ Sys base w0 w' L :=
  h.apart 6 bg bw wcs [z1, z2, z3, z4, z5, z6] (by decide) hg hw rfl hwl rfl hz hwant
theorem TS.same {A Ax : Option Addr} {m c n cx : Nat} {ts : List Int} (h : TS base w0 L b1 w1 W ([] ++ [.slice A m c]) ([] ++ [iL ts]) bx) (j : Nat) (r : Rec) (hr : L[j]? = some r) (hv : r.v = .slice Ax n cx) (ht : r.ts = ts) (hb : ts.length ≤ 4611686018427387904) :
    Calls Try.prog 16 #[.slice A m c, .slice Ax n cx] W fun e w' => e = .returned (.bool true) ∧ Sys base w0 w' L := by
  subst ht
  have o1 := h.fam.own 0 _ _ rfl rfl
  rw [iL_len] at o1
  have o2 := (h.sys.ob j r hr).own
  rw [hv] at o2
  obtain ⟨A1, c1, e1, k1, _, r1⟩ := own_slice o1
  obtain ⟨A2, c2, e2, k2, _, r2⟩ := own_slice o2
  injection e1 with e1 e3 e4
  injection e2 with e2 e5 e6
  subst e1 e3 e4 e2 e5 e6
  refine (same_any _ _ _ _ _ _ r.ts r.ts W r1 r2 k1 k2 hb).mono ?_
  rintro e w' ⟨rfl, d, rfl⟩
  exact ⟨by simp, h.sys.below ((Fr.drewN (fun _ => False) W d).below (fun _ h => h.elim) (Nat.le_refl _))⟩
end
end Go.Proofs.Ytecppnkfnppmoaa

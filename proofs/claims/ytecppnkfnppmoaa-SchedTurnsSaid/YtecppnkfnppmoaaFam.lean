/- A family of rows, each in memory of its own: written full of marks, gone on with, looked at: what each step turns. Free of the program. -/
import Derived.Test.YtecppnkfnppmoaaMo
namespace Go.Mm
open Go.RowKit

/-- a slice from its block's head on that reads so -/
def VRd (w : World) (v : Value) (n : Nat) (zs : List Value) : Prop :=
  zs.length = n ∧ (∃ A c, v = .slice A n c ∧ n ≤ c) ∧ (0 < n → ∃ g c, v = .slice (some ⟨g, 0, none⟩) n c ∧ n ≤ c ∧ g < w.heap.size ∧ ∀ j u, zs[j]? = some u → w.cell? ⟨g, j, none⟩ = some u)
theorem VRd.of_own {w : World} {base e n : Nat} {v : Value} {zs : List Value} (h : w.ownsRow base e 1 v n zs) : VRd w v n zs := by
  obtain ⟨A, c, h1, h2, _, _⟩ := own_slice h
  exact ⟨own_len h, ⟨A, c, h1, h2⟩, fun hn => by
    obtain ⟨g, cap, q1, q2, _, q4, q5, _⟩ := own_blk h hn
    exact ⟨g, cap, q1, q2, q4, q5⟩⟩
theorem VRd.rd {w : World} {n : Nat} {v : Value} {zs : List Value} (h : VRd w v n zs) : ∃ A c, v = .slice A n c ∧ n ≤ c ∧ Rd w A n 1 zs := by
  obtain ⟨h1, ⟨A, c, rfl, hc⟩, h3⟩ := h
  refine ⟨A, c, rfl, hc, by rw [h1, Nat.mul_one], fun hn => ?_⟩
  obtain ⟨g, c', e, _, h5, h6⟩ := h3 hn
  injection e with e1 e2 e3
  subst e1
  exact ⟨_, rfl, h5, fun j u hu => by rw [add_plain]; exact h6 j u hu⟩
theorem VRd.keep {w w1 : World} {v : Value} {n : Nat} {zs : List Value} (h : VRd w v n zs) (hs : w.heap.size ≤ w1.heap.size) (hk : ∀ g, v.ownBlock = some g → g < w.heap.size → w1.heap[g]? = w.heap[g]?) : VRd w1 v n zs :=
  ⟨h.1, h.2.1, fun hn => by
    obtain ⟨g, c, rfl, h2, h3, h4⟩ := h.2.2 hn
    exact ⟨g, c, rfl, h2, by omega, fun j u hu => (World.cell?_of_block (a := ⟨g, j, none⟩) (hk g rfl h3)).trans (h4 j u hu)⟩⟩
theorem VRd.fr {S : Nat → Prop} {w w1 : World} {v : Value} {n : Nat} {zs : List Value} (h : VRd w v n zs) (hf : Fr S w w1) (hS : ∀ b, v.ownBlock = some b → ¬ S b) : VRd w1 v n zs :=
  h.keep hf.size fun g hg hl => hf.block g hl (hS g hg)

/-- no two of them in one block -/
def Dis (gv : List Value) : Prop := ∀ (i j : Nat) (u v : Value) (b : Nat), i ≠ j → gv[i]? = some u → gv[j]? = some v → u.ownBlock = some b → v.ownBlock ≠ some b
/-- the blocks of a family -/
def Sg (gv : List Value) (g : Nat) : Prop := ∃ u ∈ gv, u.ownBlock = some g
theorem Sg.of {gv : List Value} {i g : Nat} {v : Value} (h : gv[i]? = some v) (hb : v.ownBlock = some g) : Sg gv g := ⟨v, List.mem_of_getElem? h, hb⟩

section
variable (ev : Nat → Bool) (α β : Nat → Value) (K : Nat)
/-- what a row holds when those ahead of t that are to be are written full -/
def mkd (t i : Nat) (xs : List Value) : List Value := if i < t ∧ ev i = true then List.replicate xs.length (α i) else xs
theorem mkd_len (t i : Nat) (xs : List Value) : (mkd ev α t i xs).length = xs.length := by unfold mkd; split <;> simp
theorem mkd_zero (i : Nat) (xs : List Value) : mkd ev α 0 i xs = xs := if_neg (by omega)
theorem mkd_self (t : Nat) (xs : List Value) : mkd ev α t t xs = xs := if_neg (by omega)
theorem mkd_yes {t i : Nat} (xs : List Value) (h : i < t) (he : ev i = true) : mkd ev α t i xs = List.replicate xs.length (α i) := if_pos ⟨h, he⟩
theorem mkd_no (t : Nat) {i : Nat} (xs : List Value) (he : ev i = false) : mkd ev α t i xs = xs := if_neg (by rw [he]; simp)
theorem mkd_other {t t' i : Nat} (xs : List Value) (h : (i < t' ∧ ev i = true) ↔ (i < t ∧ ev i = true)) : mkd ev α t' i xs = mkd ev α t i xs := by
  unfold mkd
  by_cases h1 : i < t ∧ ev i = true
  · rw [if_pos h1, if_pos (h.2 h1)]
  · rw [if_neg h1, if_neg fun h2 => h1 (h.1 h2)]

/-- the family in memory: element type e, from block base on -/
def Got (base e : Nat) (w : World) (t : Nat) (gv : List Value) (ls : List (List Value)) : Prop :=
  ∀ (i : Nat) (v : Value) (xs : List Value), gv[i]? = some v → ls[i]? = some xs → w.ownsRow base e 1 v xs.length (mkd ev α t i xs)
variable {ev α β K}
theorem Got.start {base e : Nat} {w : World} {gv : List Value} {ls : List (List Value)} (h : ∀ (i : Nat) (v : Value) (xs : List Value), gv[i]? = some v → ls[i]? = some xs → w.ownsRow base e 1 v xs.length xs) : Got ev α base e w 0 gv ls :=
  fun i v xs hv hx => by rw [mkd_zero]; exact h i v xs hv hx
/-- one row more is written full: t' the next place to come to -/
theorem Got.step {base e t t' : Nat} {w w1 : World} {gv : List Value} {ls : List (List Value)} {v : Value} {xs : List Value} (h : Got ev α base e w t gv ls) (hd : Dis gv)
    (hv : gv[t]? = some v) (hx : ls[t]? = some xs) (het : ev t = true) (ht : t < t') (hno : ∀ i, t < i → i < t' → ev i = false) (hf : Fr (fun g => v.ownBlock = some g) w w1) (hown : w1.ownsRow base e 1 v xs.length (List.replicate xs.length (α t))) : Got ev α base e w1 t' gv ls := by
  intro i u ys hu hy
  by_cases hit : i = t
  · subst hit
    rw [hv] at hu; cases hu
    rw [hx] at hy; cases hy
    rw [mkd_yes ev α xs ht het]; exact hown
  · have hiff : (i < t' ∧ ev i = true) ↔ (i < t ∧ ev i = true) := by
      constructor
      · rintro ⟨h1, h2⟩
        rcases Nat.lt_or_gt_of_ne hit with h3 | h3
        · exact ⟨h3, h2⟩
        · rw [hno i h3 h1] at h2; cases h2
      · rintro ⟨h1, h2⟩
        exact ⟨by omega, h2⟩
    rw [mkd_other ev α ys hiff]
    exact hf.own (h i u ys hu hy) fun b hb hb' => hd i t u v b hit hu hv hb hb'
/-- a row while it is written full -/
theorem fill_set {xs : List Value} {a : Value} {k : Nat} (hk : k < xs.length) : (List.replicate k a ++ xs.drop k).set k a = List.replicate (k + 1) a ++ xs.drop (k + 1) := by
  rw [List.set_append_right _ _ (by simp), List.length_replicate, Nat.sub_self, List.drop_eq_getElem_cons hk, List.set_cons_zero, List.replicate_succ', List.append_assoc]
  rfl
theorem fill_done {xs : List Value} {a : Value} : List.replicate xs.length a ++ xs.drop xs.length = List.replicate xs.length a := by simp
theorem fill_get {xs : List Value} {a : Value} {k : Nat} (hk : k < xs.length) : ∃ u, (List.replicate k a ++ xs.drop k)[k]? = some u := ⟨_, List.getElem?_eq_getElem (by simp; omega)⟩

variable (ev α β K)
/-- what is gone on with: l, out of v -/
def Gone (base e B : Nat) (w : World) (i : Nat) (v l : Value) (xs : List Value) : Prop :=
  (ev i = false → l = v ∧ w.ownsRow base e 1 v xs.length xs) ∧
  (ev i = true → VRd w v xs.length (List.replicate xs.length (α i)) ∧ w.ownsRow base e 1 l (xs.length + K) (List.replicate xs.length (α i) ++ List.replicate K (β i)) ∧ (l.ownBlock = v.ownBlock ∨ ∃ b, l.ownBlock = some b ∧ B ≤ b))
variable {ev α β K}
theorem Gone.fr {base e B i : Nat} {w w1 : World} {v l : Value} {xs : List Value} {T : Nat → Prop} (h : Gone ev α β K base e B w i v l xs) (hf : Fr T w w1) (h1 : ∀ b, v.ownBlock = some b → ¬ T b) (h2 : ∀ b, B ≤ b → l.ownBlock = some b → ¬ T b) : Gone ev α β K base e B w1 i v l xs := by
  refine ⟨fun ho => ?_, fun he => ?_⟩
  · obtain ⟨rfl, q⟩ := h.1 ho
    exact ⟨rfl, hf.own q h1⟩
  · obtain ⟨q1, q2, q3⟩ := h.2 he
    refine ⟨q1.fr hf h1, hf.own q2 fun b hb => ?_, q3⟩
    rcases q3 with q3 | ⟨b', q3, q4⟩
    · exact h1 b (q3 ▸ hb)
    · rw [hb] at q3; cases q3
      exact h2 b q4 hb
/-- v is of the row's element type, wherever it lies -/
theorem Gone.ne_v {base e B i base' e' n' sz' : Nat} {w : World} {v l v' : Value} {xs xs' : List Value} (h : Gone ev α β K base e B w i v l xs) (h' : w.ownsRow base' e' sz' v' n' xs') (he : e ≠ e') (hv : ∀ b, v.ownBlock = some b → ∃ n ys, w.ownsRow base e 1 v n ys ∨ l.ownBlock = some b) : ∀ b, v.ownBlock = some b → v'.ownBlock ≠ some b := by
  intro b hb
  obtain ⟨n, ys, hn | hl⟩ := hv b hb
  · exact own_own_ne hn h' he hb
  · by_cases hev : ev i = true
    · exact own_own_ne (h.2 hev).2.1 h' he hl
    · obtain ⟨rfl, q⟩ := h.1 (by simpa using hev)
      exact own_own_ne q h' he hb

variable (ev α β K)
/-- while it is gone on with: of the rows ahead of j -/
structure Long (base e e2 B : Nat) (w : World) (j : Nat) (gv : List Value) (ls : List (List Value)) (lv : Value) (lvs : List Value) : Prop where
  own : w.ownsRow B e2 1 lv j lvs
  gone : ∀ (i : Nat) (v l : Value) (xs : List Value), gv[i]? = some v → lvs[i]? = some l → ls[i]? = some xs → Gone ev α β K base e B w i v l xs
  left : ∀ (i : Nat) (v : Value) (xs : List Value), j ≤ i → gv[i]? = some v → ls[i]? = some xs → w.ownsRow base e 1 v xs.length (if ev i = true then List.replicate xs.length (α i) else xs)
variable {ev α β K}
theorem Long.len {base e e2 B j : Nat} {w : World} {gv : List Value} {ls : List (List Value)} {lv : Value} {lvs : List Value} (h : Long ev α β K base e e2 B w j gv ls lv lvs) : lvs.length = j := own_len h.own
theorem Long.start {base e e2 B t : Nat} {w : World} {gv : List Value} {ls : List (List Value)} (h : Got ev α base e w t gv ls) (ht : gv.length ≤ t) : Long ev α β K base e e2 B w 0 gv ls (.slice none 0 0) [] := by
  refine ⟨⟨by simp, .inl ⟨rfl, rfl⟩⟩, fun i v l xs _ hl => by simp at hl, fun i v xs _ hv hx => ?_⟩
  have := h i v xs hv hx
  have hi := (List.getElem?_eq_some_iff.1 hv).1
  by_cases he : ev i = true
  · rw [if_pos he]; rwa [mkd_yes ev α xs (by omega) he] at this
  · rw [if_neg he]; rwa [mkd_no ev α t xs (by simpa using he)] at this
/-- the row j, while it is gone on with, q marks behind it -/
structure Grow (base e B : Nat) (W w : World) (v l : Value) (n q : Nat) (a b : Value) : Prop where
  own : w.ownsRow base e 1 l (n + q) (List.replicate n a ++ List.replicate q b)
  rd : VRd w v n (List.replicate n a)
  blk : l.ownBlock = v.ownBlock ∨ ∃ g, l.ownBlock = some g ∧ B ≤ g ∧ W.heap.size ≤ g
  fr : Fr (fun g => v.ownBlock = some g) W w
theorem Grow.start {base e B n : Nat} {W : World} {v a b : Value} (h : W.ownsRow base e 1 v n (List.replicate n a)) : Grow base e B W W v v n 0 a b :=
  ⟨by simpa using h, VRd.of_own h, .inl rfl, Fr.refl _ _⟩
theorem Grow.step {base e B n q : Nat} {W w w1 : World} {v l l1 a b : Value} (h : Grow base e B W w v l n q a b) (hB : B ≤ W.heap.size) (hv : ∀ g, v.ownBlock = some g → g < W.heap.size)
    (ho : w1.ownsRow base e 1 l1 (n + q + 1) (List.replicate n a ++ List.replicate q b ++ [b])) (hg : w.grownBy w1 l.ownBlock) (hb : l1.ownBlock = l.ownBlock ∨ ∃ g, l1.ownBlock = some g ∧ w.heap.size ≤ g ∧ ∀ k, k < w.heap.size → w1.heap[k]? = w.heap[k]?) :
    Grow base e B W w1 v l1 n (q + 1) a b := by
  have hsz := h.fr.size
  have hrow : w1.ownsRow base e 1 l1 (n + (q + 1)) (List.replicate n a ++ List.replicate (q + 1) b) := by
    rw [List.replicate_succ', ← List.append_assoc, ← Nat.add_assoc]; exact ho
  refine ⟨hrow, ?_, ?_, ?_⟩
  · rcases hb with hb | ⟨g, hb, _, hk⟩
    · rcases h.blk with h1 | ⟨g, h1, _, h3⟩
      · refine ⟨h.rd.1, h.rd.2.1, fun hn => ?_⟩
        obtain ⟨g, c, rfl, h2, h3, h4⟩ := h.rd.2.2 hn
        obtain ⟨g', cap, rfl, _, _, _, h5, _⟩ := own_blk hrow (by omega)
        rw [h1] at hb
        have : g' = g := by simpa [Value.ownBlock] using hb
        subst this
        refine ⟨g', c, rfl, h2, by have := hg.size; omega, fun j u hu => h5 j u ?_⟩
        rw [List.getElem?_append_left (List.getElem?_eq_some_iff.1 hu).1]
        exact hu
      · refine h.rd.keep hg.size fun g' e' hl' => hg.block _ hl' ?_
        rw [h1]
        intro e2
        injection e2 with e2
        have := hv _ e'
        omega
    · exact h.rd.keep hg.size fun g' _ hl' => hk _ hl'
  · rcases hb with hb | ⟨g, hb, hb2, _⟩
    · rw [hb]; exact h.blk
    · exact .inr ⟨g, hb, by omega, by omega⟩
  · refine h.fr.trans (Fr.grown hg) fun g hgl hrow' => ?_
    rcases h.blk with h1 | ⟨g', h1, _, h3⟩
    · rw [← h1]; exact hrow'
    · rw [hrow'] at h1; cases h1; omega
theorem Grow.gone {base e B j n : Nat} {W w : World} {v l : Value} {xs : List Value} (h : Grow base e B W w v l n K (α j) (β j)) (hn : xs.length = n) (he : ev j = true) : Gone ev α β K base e B w j v l xs := by
  subst hn
  refine ⟨(fun h0 => by rw [he] at h0; cases h0), fun _ => ⟨h.rd, h.own, ?_⟩⟩
  rcases h.blk with h1 | ⟨g, h1, h2, _⟩
  · exact .inl h1
  · exact .inr ⟨g, h1, h2⟩
theorem Long.step {base e e2 B j : Nat} {W w2 w3 : World} {gv : List Value} {ls : List (List Value)} {lv lv1 v l : Value} {lvs xs : List Value} (h : Long ev α β K base e e2 B W j gv ls lv lvs) (hd : Dis gv) (hB : ∀ u ∈ gv, ∀ b, u.ownBlock = some b → b < B) (he : e ≠ e2)
    (hv : gv[j]? = some v) (hx : ls[j]? = some xs) (hf : Fr (fun g => v.ownBlock = some g) W w2) (hg2 : Gone ev α β K base e B w2 j v l xs)
    (ho : w3.ownsRow B e2 1 lv1 (j + 1) (lvs ++ [l])) (hg : w2.grownBy w3 lv.ownBlock) : Long ev α β K base e e2 B w3 (j + 1) gv ls lv1 (lvs ++ [l]) := by
  have hvB := hB v (List.mem_of_getElem? hv)
  have hlv : w2.ownsRow B e2 1 lv j lvs := hf.own h.own fun b hb hb' => by
    have := (own_lt h.own hb).1
    have := hvB b hb'
    omega
  have hlen := h.len
  have second : ∀ (i : Nat) (u l' : Value) (ys : List Value), gv[i]? = some u → Gone ev α β K base e B w2 i u l' ys → Gone ev α β K base e B w3 i u l' ys := by
    intro i u l' ys hu hgo
    have huB := hB u (List.mem_of_getElem? hu)
    refine hgo.fr (Fr.grown hg) (fun b hb hb' => ?_) (fun b hBb hb hb' => ?_)
    · have := (own_lt hlv hb').1
      have := huB b hb
      omega
    · by_cases hev : ev i = true
      · exact own_own_ne (hgo.2 hev).2.1 hlv he hb hb'
      · obtain ⟨rfl, _⟩ := hgo.1 (by simpa using hev)
        have := huB b hb
        omega
  refine ⟨ho, fun i u l' ys hu hl' hy => ?_, fun i u ys hji hu hy => ?_⟩
  · by_cases hij : i < j
    · rw [List.getElem?_append_left (by omega)] at hl'
      have hgo := h.gone i u l' ys hu hl' hy
      refine second i u l' ys hu (hgo.fr hf (fun b hb hb' => hd i j u v b (by omega) hu hv hb hb') fun b hBb _ hb' => ?_)
      have := hvB b hb'
      omega
    · have hi := (List.getElem?_eq_some_iff.1 hl').1
      simp only [List.length_append, List.length_cons, List.length_nil] at hi
      obtain rfl : i = j := by omega
      rw [List.getElem?_append_right (by omega), hlen, Nat.sub_self] at hl'
      simp only [List.getElem?_cons_zero, Option.some.injEq] at hl'
      subst hl'
      rw [hv] at hu; cases hu
      rw [hx] at hy; cases hy
      exact second i v l xs hv hg2
  · have h1 := hf.own (h.left i u ys (by omega) hu hy) fun b hb hb' => hd i j u v b (by omega) hu hv hb hb'
    refine (Fr.grown hg).own h1 fun b hb hb' => ?_
    have := (own_lt hlv hb').1
    have := hB u (List.mem_of_getElem? hu) b hb
    omega
end

/-- a family to be held against another, which shares nothing with it -/
structure ApIn (base e m : Nat) (Ag Aw : Option Addr) (gv wv : List Value) (ls : List (List Value)) (w : World) : Prop where
  lg : gv.length = m
  lw : wv.length = m
  ll : ls.length = m
  rg : Rd w Ag m 1 gv
  rw : Rd w Aw m 1 wv
  own : ∀ (i : Nat) (v : Value) (xs : List Value), gv[i]? = some v → ls[i]? = some xs → w.ownsRow base e 1 v xs.length xs
  want : ∀ (i : Nat) (v : Value) (xs : List Value), wv[i]? = some v → ls[i]? = some xs → ∃ A c, v = .slice A xs.length c ∧ xs.length ≤ c ∧ Rd w A xs.length 1 xs ∧ ∀ ad, A = some ad → ¬ Sg gv ad.block
  dis : Dis gv
  offg : ∀ ad, Ag = some ad → ¬ Sg gv ad.block
  offw : ∀ ad, Aw = some ad → ¬ Sg gv ad.block
section
variable {base e m : Nat} {Ag Aw : Option Addr} {gv wv : List Value} {ls : List (List Value)} {w w1 : World}
theorem ApIn.below (h : ApIn base e m Ag Aw gv wv ls w) : ∀ u ∈ gv, ∀ b, u.ownBlock = some b → b < w.heap.size := by
  intro u hu b hb
  obtain ⟨i, hi⟩ := List.getElem?_of_mem hu
  have hlt := (List.getElem?_eq_some_iff.1 hi).1
  obtain ⟨xs, hx⟩ : ∃ xs, ls[i]? = some xs := ⟨_, List.getElem?_eq_getElem (by rw [h.ll, ← h.lg]; exact hlt)⟩
  exact (own_lt (h.own i u xs hi hx) hb).2
theorem ApIn.at_g (h : ApIn base e m Ag Aw gv wv ls w) (hf : Fr (Sg gv) w w1) : Rd w1 Ag m 1 gv := hf.rd h.rg h.offg
theorem ApIn.at_w (h : ApIn base e m Ag Aw gv wv ls w) (hf : Fr (Sg gv) w w1) : Rd w1 Aw m 1 wv := hf.rd h.rw h.offw
theorem ApIn.at_want (h : ApIn base e m Ag Aw gv wv ls w) (hf : Fr (Sg gv) w w1) {i : Nat} {v : Value} {xs : List Value} (hv : wv[i]? = some v) (hx : ls[i]? = some xs) : ∃ A c, v = .slice A xs.length c ∧ xs.length ≤ c ∧ Rd w1 A xs.length 1 xs := by
  obtain ⟨A, c, h1, h2, h3, h4⟩ := h.want i v xs hv hx
  exact ⟨A, c, h1, h2, hf.rd h3 h4⟩
theorem ApIn.row (h : ApIn base e m Ag Aw gv wv ls w) {i : Nat} (hi : i < m) : ∃ v u xs, gv[i]? = some v ∧ wv[i]? = some u ∧ ls[i]? = some xs :=
  ⟨_, _, _, List.getElem?_eq_getElem (by rw [h.lg]; exact hi), List.getElem?_eq_getElem (by rw [h.lw]; exact hi), List.getElem?_eq_getElem (by rw [h.ll]; exact hi)⟩
theorem Fr.sg {v : Value} {i : Nat} (hv : gv[i]? = some v) (h : Fr (fun g => v.ownBlock = some g) w w1) : Fr (Sg gv) w w1 := h.mono fun _ hg => Sg.of hv hg
/-- what was laid since then is none of these -/
theorem Fr.sg_new {w2 : World} {row : Option Nat} (h : Fr (Sg gv) w w1) (hg : w1.grownBy w2 row) (hr : ∀ b, row = some b → w.heap.size ≤ b) : Fr (Sg gv) w w2 :=
  h.trans (Fr.grown hg) fun g hlt hrow => by have := hr g hrow; omega
end
end Go.Mm

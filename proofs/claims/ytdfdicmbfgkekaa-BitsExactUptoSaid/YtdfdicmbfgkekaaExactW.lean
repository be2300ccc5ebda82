/- BitsExact: the walk. -/
import Derived.Test.YtdfdicmbfgkekaaOps
import Derived.Test.YtdfdicmbfgkekaaAlg
import Derived.Deep.DeepMust
import Derived.Deep.CutRange
namespace Go.Proofs.Ytdfdicmbfgkekaa
open Go.RowKit Go.Mm Go.Bs
theorem info52 : (Try.prog.info? 52).map (fun i => (i.zero, i.size, i.bytes)) = some (some (.agg #[.pointer none, .pointer none]), 2, 16) := by kernel_rfl
/-- pairs, each apart from each -/
structure Pairs (base : Nat) (w : World) (ps : List Pr) (rs : List Nat) (Zs : List (Nat → Bool)) : Prop where mk ::
  lr : rs.length = ps.length
  lz : Zs.length = ps.length
  get : ∀ (i : Nat) (p : Pr) (r : Nat) (S : Nat → Bool), ps[i]? = some p → rs[i]? = some r → Zs[i]? = some S → PairB w p r S
  apart : ∀ (i j : Nat) (p q : Pr), i ≠ j → ps[i]? = some p → ps[j]? = some q → p.hi ≤ q.lo ∨ q.hi ≤ p.lo
  low : ∀ (i : Nat) (p : Pr), ps[i]? = some p → base ≤ p.lo
theorem Blk.drew {w : World} {g t : Nat} {cs : Array Value} (h : Blk w g t cs) : Blk w.drew g t cs := h
theorem Blk.newd (w : World) (cs : Array Value) (t : TypeId) : Blk (w.drew.alloc (.cells cs t)) w.heap.size t cs := Blk.new w.drew cs t
theorem blk_of {W w' : World} {g t : Nat} {cs : Array Value} (f : Below W.heap.size W w') (h : Blk W g t cs) : Blk w' g t cs := (Fr.of_below f).blk h fun h => h
def fP (p : Pr) : List Value := [.pointer (some ⟨p.a, 0, none⟩), .pointer (some ⟨p.b, 0, none⟩)]
theorem fP_len (p : Pr) : (fP p).length = 2 := rfl
theorem rd_pr {w : World} {A : Option Addr} {n i : Nat} {ps : List Pr} {p : Pr} (h : Rd w A n 2 (ps.flatMap fP)) (hs : ps[i]? = some p) (hn : ps.length = n) : ∃ ad, A = some ad ∧ ad.block < w.heap.size ∧ w.cell? (ad.add (i * 2)) = some (.pointer (some ⟨p.a, 0, none⟩)) ∧ w.cell? ⟨(ad.add (i * 2)).block, (ad.add (i * 2)).off + 1, none⟩ = some (.pointer (some ⟨p.b, 0, none⟩)) := by
  have hi := (List.getElem?_eq_some_iff.1 hs).1
  obtain ⟨ad, rfl, hb, hc⟩ := h.2 (by omega)
  refine ⟨ad, rfl, hb, hc (i * 2 + 0) _ (by rw [flatMap_at fP_len hs (by decide)]; rfl), ?_⟩
  rw [← add_field _ _ 1 (by decide)]
  exact hc _ _ (by rw [flatMap_at fP_len hs (by decide)]; rfl)
/-- all of it, while it is made and played -/
structure Inv (base : Nat) (W0 w : World) (v : Value) (ps : List Pr) (rs : List Nat) (Zs : List (Nat → Bool)) : Prop where mk ::
  own : w.ownsRow base 52 2 v ps.length (ps.flatMap fP)
  prs : Pairs base w ps rs Zs
  off : ∀ b, v.ownBlock = some b → ∀ (i : Nat) (p : Pr), ps[i]? = some p → ¬ (p.lo ≤ b ∧ b < p.hi)
  bel : Below base W0 w
section
variable {base : Nat} {W0 w w' : World} {v : Value} {ps : List Pr} {rs : List Nat} {Zs : List (Nat → Bool)}
theorem Pairs.below (h : Pairs base w ps rs Zs) (f : Below w.heap.size w w') : Pairs base w' ps rs Zs := ⟨h.lr, h.lz, fun i p r S h1 h2 h3 => (h.get i p r S h1 h2 h3).below f, h.apart, h.low⟩
theorem Inv.below (h : Inv base W0 w v ps rs Zs) (hb : base ≤ w.heap.size) (f : Below w.heap.size w w') : Inv base W0 w' v ps rs Zs := ⟨(Fr.of_below f).own h.own (fun _ _ h => h), h.prs.below f, h.off, h.bel.trans (f.mono hb)⟩
theorem Inv.turn {i r : Nat} {p : Pr} {S' : Nat → Bool} (h : Inv base W0 w v ps rs Zs) (hp : ps[i]? = some p) (hr : rs[i]? = some r) (hb : base ≤ w.heap.size) (hn : PairB w' p r S') (f : Fr (In p) w w') : Inv base W0 w' v ps rs (Zs.set i S') := by
  refine ⟨f.own h.own (fun b hb hi => h.off b hb i p hp hi), ⟨h.prs.lr, by rw [List.length_set]; exact h.prs.lz, fun j q r' S h1 h2 h3 => ?_, h.prs.apart, h.prs.low⟩, h.off, h.bel.trans (f.below (fun k hk => Nat.le_trans (h.prs.low i p hp) hk.1) hb)⟩
  rw [List.getElem?_set] at h3
  by_cases e : i = j
  · subst e
    have hi := (List.getElem?_eq_some_iff.1 hp).1
    rw [if_pos rfl, if_pos (by rw [h.prs.lz]; exact hi)] at h3
    rw [hp] at h1; rw [hr] at h2
    injection h1 with h1; injection h2 with h2; injection h3 with h3
    subst h1; subst h2; subst h3
    exact hn
  · rw [if_neg e] at h3
    have h4 := h.prs.get j q r' S h1 h2 h3
    refine h4.fr f fun k k1 k2 hk => ?_
    have h5 := h.prs.apart i j p q e hp h1
    have h6 : p.lo ≤ k ∧ k < p.hi := hk
    omega
theorem Inv.other {i j r : Nat} {p q : Pr} {S T : Nat → Bool} (h : Inv base W0 w v ps rs Zs) (hp : ps[i]? = some p) (hS : Zs[i]? = some S) (hq : ps[j]? = some q) (hT : Zs[j]? = some T) (hr : rs[j]? = some r) : Oth w p S (some ⟨q.a, 0, none⟩) (some ⟨q.b, 0, none⟩) T := by
  by_cases e : i = j
  · subst e
    rw [hp] at hq; rw [hS] at hT
    injection hq with hq; injection hT with hT
    subst hq; subst hT
    exact .inr (.inl ⟨rfl, rfl, rfl⟩)
  · exact .inr (.inr ⟨q, r, rfl, rfl, h.prs.get j q r T hq hr hT, by have := h.prs.apart i j p q e hp hq; omega⟩)
theorem Inv.push {wc w3 : World} {v1 : Value} {p : Pr} {r : Nat} (h : Inv base W0 w v ps rs Zs) (hb : base ≤ w.heap.size) (hp : PairB wc p r none0) (hlo : p.lo = w.heap.size) (f : Below w.heap.size w wc)
    (ho : w3.ownsRow base 52 2 v1 (ps.length + 1) (ps.flatMap fP ++ fP p)) (hg : wc.grownBy w3 v.ownBlock) (hv : v1.ownBlock = v.ownBlock ∨ ∃ b, v1.ownBlock = some b ∧ wc.heap.size ≤ b) : Inv base W0 w3 v1 (ps ++ [p]) (rs ++ [r]) (Zs ++ [none0]) := by
  have hown : ∀ b, v.ownBlock = some b → b < w.heap.size := fun b hb => (own_lt h.own hb).2
  have hhi : ∀ (i : Nat) (q : Pr), ps[i]? = some q → q.hi ≤ w.heap.size := fun i q hq => by
    have hi := (List.getElem?_eq_some_iff.1 hq).1
    exact (h.prs.get i q _ _ hq (List.getElem?_eq_getElem (by rw [h.prs.lr]; exact hi)) (List.getElem?_eq_getElem (by rw [h.prs.lz]; exact hi))).top
  have hkeep : ∀ (q : Pr) (r' : Nat) (S : Nat → Bool), PairB wc q r' S → (∀ b, v.ownBlock = some b → ¬ (q.lo ≤ b ∧ b < q.hi)) → PairB w3 q r' S := fun q r' S hq hoff => hq.fr (Fr.grown hg) fun k k1 k2 hk => hoff k hk ⟨k1, k2⟩
  have hsz := hg.size
  have hpo : ∀ b, v.ownBlock = some b → ¬ (p.lo ≤ b ∧ b < p.hi) := fun b hb => by have := hown b hb; omega
  have hlen : ∀ {α : Type} {l : List α} {x y : α} {i : Nat}, (l ++ [x])[i]? = some y → i < l.length ∨ (i = l.length ∧ y = x) := by
    intro α l x y i h
    rw [List.getElem?_append] at h
    by_cases hi : i < l.length
    · exact .inl hi
    · rw [if_neg hi] at h
      have := (List.getElem?_eq_some_iff.1 h).1
      simp at this
      have e : i - l.length = 0 := by omega
      rw [e] at h; simp at h
      exact .inr ⟨by omega, h.symm⟩
  have hold : ∀ {α : Type} {l : List α} {x y : α} {i : Nat}, i < l.length → (l ++ [x])[i]? = some y → l[i]? = some y := by
    intro α l x y i hi h
    rwa [List.getElem?_append_left hi] at h
  refine ⟨?_, ⟨by simp [h.prs.lr], by simp [h.prs.lz], fun i q r' S h1 h2 h3 => ?_, fun i j q q' hij h1 h2 => ?_, fun i q h1 => ?_⟩, fun b hb i q h1 => ?_, ?_⟩
  · rw [List.length_append, List.flatMap_append]
    simpa using ho
  · rcases hlen h1 with hi | ⟨hi, rfl⟩
    · have h1' := hold hi h1
      have h4 := h.prs.get i q r' S h1' (hold (by rw [h.prs.lr]; exact hi) h2) (hold (by rw [h.prs.lz]; exact hi) h3)
      exact hkeep q r' S (h4.below f) fun b hb => h.off b hb i q h1'
    · rcases hlen h2 with h5 | ⟨_, rfl⟩
      · rw [h.prs.lr] at h5; omega
      · rcases hlen h3 with h5 | ⟨_, rfl⟩
        · rw [h.prs.lz] at h5; omega
        · exact hkeep q r' none0 hp hpo
  · rcases hlen h1 with hi | ⟨hi, rfl⟩ <;> rcases hlen h2 with hj | ⟨hj, rfl⟩
    · exact h.prs.apart i j q q' hij (hold hi h1) (hold hj h2)
    · have := hhi i q (hold hi h1); omega
    · have := hhi j q' (hold hj h2); omega
    · omega
  · rcases hlen h1 with hi | ⟨hi, rfl⟩
    · exact h.prs.low i q (hold hi h1)
    · omega
  · rcases hv with hv | ⟨b', hv, hb'⟩
    · rw [hv] at hb
      rcases hlen h1 with hi | ⟨hi, rfl⟩
      · exact h.off b hb i q (hold hi h1)
      · exact hpo b hb
    · rw [hb] at hv
      injection hv with hv
      subst hv
      have hfs := f.size
      have hpt := hp.top
      rcases hlen h1 with hi | ⟨hi, rfl⟩
      · have := hhi i q (hold hi h1); omega
      · omega
  · exact (h.bel.trans (f.mono hb)).trans ((Fr.grown hg).below (fun k hk => (own_lt h.own hk).1) (Nat.le_trans hb f.size))
end
theorem Inv.rd {base n c : Nat} {W0 w : World} {A : Option Addr} {ps : List Pr} {rs : List Nat} {Zs : List (Nat → Bool)} (h : Inv base W0 w (.slice A n c) ps rs Zs) : Rd w A ps.length 2 (ps.flatMap fP) := by
  obtain ⟨A', c', e, _, _, r⟩ := own_slice h.own
  injection e with e1 e2 e3
  rw [e1]; exact r
theorem Inv.hasAd {base n c k : Nat} {W0 w : World} {A : Option Addr} {ps : List Pr} {rs : List Nat} {Zs : List (Nat → Bool)} (h : Inv base W0 w (.slice A n c) ps rs Zs) (hl : ps.length = k) (hk : 0 < k) : ∃ ad, A = some ad := by
  obtain ⟨p, hp⟩ : ∃ p, ps[0]? = some p := ⟨_, List.getElem?_eq_getElem (show 0 < ps.length by omega)⟩
  obtain ⟨ad1, h1, _⟩ := rd_pr h.rd hp rfl
  exact ⟨ad1, h1⟩
theorem Inv.get {base n c k t : Nat} {W0 w W : World} {ad : Addr} {ps : List Pr} {rs : List Nat} {Zs : List (Nat → Bool)} (h : Inv base W0 w (.slice (some ad) n c) ps rs Zs) (hl : ps.length = k) (ht : t < k) (hf : Fr (fun _ => False) w W) : ∃ p r S, Hid (ps[t]? = some p) ∧ Hid (rs[t]? = some r) ∧ Hid (Zs[t]? = some S) ∧ W.cell? (ad.add (t * 2)) = some (.pointer (some ⟨p.a, 0, none⟩)) ∧ W.cell? ⟨(ad.add (t * 2)).block, (ad.add (t * 2)).off + 1, none⟩ = some (.pointer (some ⟨p.b, 0, none⟩)) := by
  obtain ⟨p, hp⟩ : ∃ p, ps[t]? = some p := ⟨_, List.getElem?_eq_getElem (show t < ps.length by omega)⟩
  obtain ⟨ad2, h1, _, h2, h3⟩ := rd_pr h.rd hp rfl
  injection h1 with h1
  subst h1
  exact ⟨p, _, _, Mm.hid hp, Mm.hid (List.getElem?_eq_getElem (by rw [h.prs.lr]; omega)), Mm.hid (List.getElem?_eq_getElem (by rw [h.prs.lz]; omega)), hf.cell h2 (fun h => h), hf.cell h3 (fun h => h)⟩
/-- a pair just made, in whatever order its box was laid -/
theorem pair_new {wr V wa W wb wc : World} {a g b r X : Nat} (nA : SetB wa a g r none0 ∧ Below V.heap.size V wa ∧ V.heap.size ≤ a ∧ V.heap.size ≤ g) (nB : RefB W.heap.size wb.heap.size wb b r none0 ∧ Below W.heap.size W wb) (hV : Below wr.heap.size wr V) (hW : Below wa.heap.size wa W) (f : Fr (fun k => k = X) wb wc) (hXa : X ≠ a) (hXg : X ≠ g) (hX : X < W.heap.size ∨ wb.heap.size ≤ X) (hXr : wr.heap.size ≤ X) :
    PairB wc ⟨a, g, b, W.heap.size, wb.heap.size, wr.heap.size, wc.heap.size⟩ r none0 ∧ Below wr.heap.size wr wc := by
  have s1 := ((nA.1.below hW).below nB.2).fr f (fun e => hXa e.symm) (fun e => hXg e.symm)
  have r1 := nB.1.fr f (fun k k1 k2 e => by omega)
  have la := nA.1.st.lt
  have lg := nA.1.ws.lt
  have z1 := hV.size
  have z2 := nA.2.1.size
  have z3 := hW.size
  have z4 := nB.2.size
  have z5 := f.size
  refine ⟨⟨s1, r1, ⟨by dsimp only; omega, by dsimp only; omega⟩, ⟨by dsimp only; omega, by dsimp only; omega⟩, ⟨by dsimp only; omega, by dsimp only; omega⟩, by dsimp only; omega, by dsimp only; omega, Nat.le_refl _⟩, ?_⟩
  exact (((hV.trans (nA.2.1.mono z1)).trans (hW.mono (by omega))).trans (nB.2.mono (by omega))).trans (f.below (fun k e => by omega) (by omega))
theorem drewb (w : World) : Below w.heap.size w w.drew := (Fr.drew (fun _ => False) w).below (fun _ h => h.elim) (Nat.le_refl _)
theorem Blk.two {w : World} {X : Nat} {u v : Value} (h : Blk w X 52 #[.pointer none, .pointer none]) : Blk ((w.setCell ⟨X, 0, none⟩ u).setCell ⟨X, 1, none⟩ v) X 52 #[u, v] := (h.set 0 u).set 1 v
theorem fr_two (w : World) (X : Nat) (u v : Value) : Fr (fun k => k = X) w ((w.setCell ⟨X, 0, none⟩ u).setCell ⟨X, 1, none⟩ v) := (Fr.setCell w ⟨X, 0, none⟩ u).trans (Fr.setCell _ ⟨X, 1, none⟩ v) (fun _ _ h => h)
/-- a box and a pair just made -/
def Fresh (wr wc : World) (r : Nat) (t : Value) : Prop := ∃ (X : Nat) (p : Pr), t = .pointer (some ⟨X, 0, none⟩) ∧ Hid (Blk wc X 52 #[.pointer (some ⟨p.a, 0, none⟩), .pointer (some ⟨p.b, 0, none⟩)] ∧ PairB wc p r none0 ∧ p.lo = wr.heap.size ∧ Below wr.heap.size wr wc)
theorem fresh1 {wr V wa W wb : World} {a g b r : Nat} (nA : SetB wa a g r none0 ∧ Below V.heap.size V wa ∧ V.heap.size ≤ a ∧ V.heap.size ≤ g) (nB : RefB W.heap.size wb.heap.size wb b r none0 ∧ Below W.heap.size W wb) (hV : Below wr.heap.size wr V) (hW : Below wa.heap.size wa W) : Fresh wr (wb.alloc (.cells #[.pointer (some ⟨a, 0, none⟩), .pointer (some ⟨b, 0, none⟩)] 52)) r (.pointer (some ⟨wb.heap.size, 0, none⟩)) := by
  have la := nA.1.st.lt
  have lg := nA.1.ws.lt
  have z1 := hV.size
  have z2 := nA.2.1.size
  have z3 := hW.size
  have z4 := nB.2.size
  obtain ⟨h1, h2⟩ := pair_new (X := wb.heap.size) nA nB hV hW (Fr.alloc _ wb (.cells #[.pointer (some ⟨a, 0, none⟩), .pointer (some ⟨b, 0, none⟩)] 52)) (by omega) (by omega) (by omega) (by omega)
  exact ⟨_, _, rfl, Mm.hid ⟨Blk.new _ _ _, h1, rfl, h2⟩⟩
theorem fresh2 {wr V wa W wb : World} {a g b r : Nat} (nA : SetB wa a g r none0 ∧ Below V.heap.size V wa ∧ V.heap.size ≤ a ∧ V.heap.size ≤ g) (nB : RefB W.heap.size wb.heap.size wb b r none0 ∧ Below W.heap.size W wb) (hV : Below wr.heap.size wr V) (hW : Below wa.heap.size wa W) (hX : wa.heap.size < W.heap.size) (hb : Blk wb wa.heap.size 52 #[.pointer none, .pointer none]) : Fresh wr ((wb.setCell ⟨wa.heap.size, 0, none⟩ (.pointer (some ⟨a, 0, none⟩))).setCell ⟨wa.heap.size, 1, none⟩ (.pointer (some ⟨b, 0, none⟩))) r (.pointer (some ⟨wa.heap.size, 0, none⟩)) := by
  have la := nA.1.st.lt
  have lg := nA.1.ws.lt
  have z1 := hV.size
  have z2 := nA.2.1.size
  have z4 := nB.2.size
  obtain ⟨h1, h2⟩ := pair_new (X := wa.heap.size) nA nB hV hW (fr_two wb wa.heap.size (.pointer (some ⟨a, 0, none⟩)) (.pointer (some ⟨b, 0, none⟩))) (by omega) (by omega) (by omega) (by omega)
  exact ⟨_, _, rfl, Mm.hid ⟨Blk.two hb, h1, rfl, h2⟩⟩
theorem fresh3 {wr V wa W wb : World} {a g b r : Nat} (nA : SetB wa a g r none0 ∧ Below V.heap.size V wa ∧ V.heap.size ≤ a ∧ V.heap.size ≤ g) (nB : RefB W.heap.size wb.heap.size wb b r none0 ∧ Below W.heap.size W wb) (hV : Below wr.heap.size wr V) (hW : Below wa.heap.size wa W) (hX : wr.heap.size < V.heap.size) (hb : Blk wb wr.heap.size 52 #[.pointer none, .pointer none]) : Fresh wr ((wb.setCell ⟨wr.heap.size, 0, none⟩ (.pointer (some ⟨a, 0, none⟩))).setCell ⟨wr.heap.size, 1, none⟩ (.pointer (some ⟨b, 0, none⟩))) r (.pointer (some ⟨wr.heap.size, 0, none⟩)) := by
  have la := nA.1.st.lt
  have lg := nA.1.ws.lt
  have z1 := hV.size
  have z2 := nA.2.1.size
  have z3 := hW.size
  have z4 := nB.2.size
  obtain ⟨h1, h2⟩ := pair_new (X := wr.heap.size) nA nB hV hW (fr_two wb wr.heap.size (.pointer (some ⟨a, 0, none⟩)) (.pointer (some ⟨b, 0, none⟩))) (by omega) (by omega) (by omega) (by omega)
  exact ⟨_, _, rfl, Mm.hid ⟨Blk.two hb, h1, rfl, h2⟩⟩
def OthQ (ps : List Pr) (qa qb : Option Addr) : Prop := (qa = none ∧ qb = none) ∨ ∃ (t : Nat) (q : Pr), ps[t]? = some q ∧ qa = some ⟨q.a, 0, none⟩ ∧ qb = some ⟨q.b, 0, none⟩
theorem Inv.oth {base t : Nat} {W0 w : World} {v : Value} {ps : List Pr} {rs : List Nat} {Zs : List (Nat → Bool)} {p : Pr} {S : Nat → Bool} {qa qb : Option Addr} (h : Inv base W0 w v ps rs Zs) (hq : OthQ ps qa qb) (hp : ps[t]? = some p) (hS : Zs[t]? = some S) : ∃ T, Oth w p S qa qb T := by
  rcases hq with ⟨rfl, rfl⟩ | ⟨t', q, hq, rfl, rfl⟩
  · exact ⟨_, .inl ⟨rfl, rfl, rfl⟩⟩
  · have hl := (List.getElem?_eq_some_iff.1 hq).1
    exact ⟨_, h.other hp hS hq (List.getElem?_eq_getElem (show t' < Zs.length by rw [h.prs.lz]; exact hl)) (List.getElem?_eq_getElem (show t' < rs.length by rw [h.prs.lr]; exact hl))⟩
theorem Inv.set {base t : Nat} {W0 w : World} {v : Value} {ps : List Pr} {rs : List Nat} {Zs : List (Nat → Bool)} {S : Nat → Bool} (_ : Inv base W0 w v ps rs Zs) (hS : Zs[t]? = some S) (S' : Nat → Bool) : (Zs.set t S')[t]? = some S' := by
  have hl := (List.getElem?_eq_some_iff.1 hS).1
  rw [List.getElem?_set_self hl]
theorem three0 (w : World) (x y z : Array Value) : Blk (((w.alloc (.cells x 54)).alloc (.cells y 52)).alloc (.cells z 52)) w.heap.size 54 x ∧ Blk (((w.alloc (.cells x 54)).alloc (.cells y 52)).alloc (.cells z 52)) (w.heap.size + 1) 52 y ∧ Blk (((w.alloc (.cells x 54)).alloc (.cells y 52)).alloc (.cells z 52)) (w.heap.size + 1 + 1) 52 z ∧ Below w.heap.size w (((w.alloc (.cells x 54)).alloc (.cells y 52)).alloc (.cells z 52)) := by
  have h2 := Blk.new (w.alloc (.cells x 54)) y 52
  have h3 := Blk.new ((w.alloc (.cells x 54)).alloc (.cells y 52)) z 52
  simp only [World.size_alloc] at h2 h3
  exact ⟨(Fr.alloc (fun _ => False) _ _).blk ((Fr.alloc (fun _ => False) _ _).blk (Blk.new _ _ _) (fun h => h)) (fun h => h), (Fr.alloc (fun _ => False) _ _).blk h2 (fun h => h), h3, (((Below.refl w.heap.size w).alloc (Nat.le_refl _) _).alloc (by simp) _).alloc (by simp; omega) _⟩
set_option maxRecDepth 100000 in
set_option maxHeartbeats 8000000 in
theorem law_exact0 (A : Option Addr) (n c : Nat) (xs : List Int) (A' : Option Addr) (n' c' : Nat) (ys : List Ox) (w : World) (R : Rd w A n 1 (iL xs)) (L : xs.length = n) (hg : ∀ x ∈ xs, gI x) (R' : Rd w A' n' 4 (ys.flatMap fO)) (L' : ys.length = n') (hn : n ≤ 1048576) (hn' : n' ≤ 1048576) :
    Calls Try.prog 6 #[.slice A n c, .slice A' n' c'] w fun e w' => e = .returned (.bool true) ∧ Below w.heap.size w w' := by
  have R := Mm.hid R
  have L := Mm.hid L
  have R' := Mm.hid R'
  have L' := Mm.hid L'
  have G := Mm.hid hg
  clear hg
  go_enter Try.func6, Try.ntmps6
  go_wp2_with fail
  refine (fixed_any _).mono ?_
  rintro e w1 ⟨rfl, bl1⟩
  have R1 := Mm.hid (R.out.below bl1)
  have R2 := Mm.hid (R'.out.below bl1)
  have B1 := Mm.hid bl1
  clear bl1
  have nil : Hid (Inv w1.heap.size w1 w1 (.slice none 0 0) [] [] []) := Mm.hid ⟨⟨by simp, .inl ⟨rfl, rfl⟩⟩, ⟨rfl, rfl, (fun i p r S h => by simp at h), (fun i j p q _ h => by simp at h), (fun i p h => by simp at h)⟩, (fun b h => by cases h), Below.refl _ _⟩
  go_wp2_with fail
  go_loopw [6, 7] (fun v i wr => ∃ k : Nat, k ≤ n ∧ i = .int .i64 (k : Nat) ∧ Hid (∃ ps rs Zs, ps.length = k ∧ Inv w1.heap.size w1 wr v ps rs Zs)) (fun _ i _ => n - (intOf i).toNat)
  case atStart => exact ⟨0, by omega, rfl, [], [], [], rfl, nil.out⟩
  case round =>
    obtain ⟨k, hk, rfl, HK⟩ := hrel
    clear nil
    by_cases hlt : k < n
    · obtain ⟨ps, rs, Zs, p1, p2⟩ := HK.out
      obtain ⟨x, hx⟩ : ∃ x, xs[k]? = some x := ⟨_, List.getElem?_eq_getElem (by rw [L.out]; exact hlt)⟩
      obtain ⟨hx1, hx2⟩ := wf64 (G.out x (List.mem_of_getElem? hx))
      obtain ⟨ad, hA, had, hcell⟩ := R1.out.cell (iL_get hx)
      subst hA
      have ck : wr.cell? (ad.add k) = some (.int .i64 x) := (Fr.of_below p2.bel).cell hcell (fun h => h)
      have z0 : (0 : Int) ≤ (k : Int) := by omega
      have z1 : (k : Int) < (n : Int) := by omega
      have P2 := Mm.hid p2
      have P1 := Mm.hid p1
      have hsz := p2.bel.size
      have nr := World.new_ne wr (ad.add k) ck
      clear HK hx p1 p2
      go_upto_region 6 with (fail)
      go_cut [8] from 23 to 33 (fun t wc => Fresh wr wc (roomOf x) t)
      case first =>
        go_region_held3 (fun w' => w'.cell? (ad.add k) = some (.int .i64 x)) (go_keep)
          (first | (go_at_call 28; refine (new_any x _ hx2 hx1).mono ?_; rintro e wa ⟨a, g, rfl, NA⟩; have ca := (Fr.of_below NA.out.2.1).cell (p := ad.add k) (v := .int .i64 x) (by first | assumption | simp [*]) (fun h => h); have na := World.new_ne wa (ad.add k) ca; (try (refine (fun (zA : Blk wa wr.heap.size 52 #[.pointer none, .pointer none]) => ?_) ?_; rotate_left; (focus (refine blk_of NA.out.2.1 ?_; with_reducible first | exact Blk.new wr _ _ | exact Blk.drew (Blk.new wr _ _) | exact Blk.newd wr _ _ | exact Blk.drew (Blk.newd wr _ _) | exact zB | exact Blk.drew zB)); have zA0 : wa.cell? ⟨wr.heap.size, 0, none⟩ = some (.pointer none) := zA.cell 0; have zA1 : wa.cell? ⟨wr.heap.size, 1, none⟩ = some (.pointer none) := zA.cell 1; have zA2 : wa.frozen? ⟨wr.heap.size, 0, none⟩ = false := zA.free 0; have zA3 : wa.frozen? ⟨wr.heap.size, 1, none⟩ = false := zA.free 1)); (try (refine (fun (zA : Blk wa wb.heap.size 52 #[.pointer none, .pointer none]) => ?_) ?_; rotate_left; (focus (refine blk_of NA.out.2.1 ?_; with_reducible first | exact Blk.new wb _ _ | exact Blk.drew (Blk.new wb _ _) | exact Blk.newd wb _ _ | exact Blk.drew (Blk.newd wb _ _))); have zA0 : wa.cell? ⟨wb.heap.size, 0, none⟩ = some (.pointer none) := zA.cell 0; have zA1 : wa.cell? ⟨wb.heap.size, 1, none⟩ = some (.pointer none) := zA.cell 1; have zA2 : wa.frozen? ⟨wb.heap.size, 0, none⟩ = false := zA.free 0; have zA3 : wa.frozen? ⟨wb.heap.size, 1, none⟩ = false := zA.free 1))) | (go_at_call 29; refine (rnew_any x _ hx2).mono ?_; rintro e wb ⟨b, rfl, NB⟩; have cb := (Fr.of_below NB.out.2).cell (p := ad.add k) (v := .int .i64 x) (by first | assumption | simp [*]) (fun h => h); have nb := World.new_ne wb (ad.add k) cb; (try (refine (fun (zB : Blk wb wr.heap.size 52 #[.pointer none, .pointer none]) => ?_) ?_; rotate_left; (focus (refine blk_of NB.out.2 ?_; with_reducible first | exact Blk.new wr _ _ | exact Blk.drew (Blk.new wr _ _) | exact Blk.newd wr _ _ | exact Blk.drew (Blk.newd wr _ _) | exact zA | exact Blk.drew zA)); have zB0 : wb.cell? ⟨wr.heap.size, 0, none⟩ = some (.pointer none) := zB.cell 0; have zB1 : wb.cell? ⟨wr.heap.size, 1, none⟩ = some (.pointer none) := zB.cell 1; have zB2 : wb.frozen? ⟨wr.heap.size, 0, none⟩ = false := zB.free 0; have zB3 : wb.frozen? ⟨wr.heap.size, 1, none⟩ = false := zB.free 1)); (try (refine (fun (zB : Blk wb wa.heap.size 52 #[.pointer none, .pointer none]) => ?_) ?_; rotate_left; (focus (refine blk_of NB.out.2 ?_; with_reducible first | exact Blk.new wa _ _ | exact Blk.drew (Blk.new wa _ _) | exact Blk.newd wa _ _ | exact Blk.drew (Blk.newd wa _ _))); have zB0 : wb.cell? ⟨wa.heap.size, 0, none⟩ = some (.pointer none) := zB.cell 0; have zB1 : wb.cell? ⟨wa.heap.size, 1, none⟩ = some (.pointer none) := zB.cell 1; have zB2 : wb.frozen? ⟨wa.heap.size, 0, none⟩ = false := zB.free 0; have zB3 : wb.frozen? ⟨wa.heap.size, 1, none⟩ = false := zB.free 1))))
        all_goals (go_wp2_with fail)
        all_goals go_meet
        · exact fresh1 NA.out NB.out (drewb _) (Below.refl _ _)
        · exact fresh2 NA.out NB.out (drewb _) (by first | exact (Below.refl _ _).alloc (Nat.le_refl _) _ | exact ((Below.refl _ _).alloc (Nat.le_refl _) _).trans (drewb _)) (by simp) zB
        · exact fresh3 NA.out NB.out (by first | exact (Below.refl _ _).alloc (Nat.le_refl _) _ | exact (((Below.refl _ _).alloc (Nat.le_refl _) _).trans ((drewb _).mono (by simp))) | exact ((drewb _).trans (((Below.refl _ _).alloc (Nat.le_refl _) _)))) (Below.refl _ _) (by simp) zB
      case rest =>
        obtain ⟨X, p, rfl, HP⟩ := hcut
        rename_i wc
        have c0 : wc.cell? ⟨X, 0, none⟩ = some (.pointer (some ⟨p.a, 0, none⟩)) := HP.out.1.cell 0
        have c1 : wc.cell? ⟨X, 1, none⟩ = some (.pointer (some ⟨p.b, 0, none⟩)) := HP.out.1.cell 1
        clear ck nr had hcell z0 z1
        have ONE : Hid (∀ u ∈ (#[Value.pointer (some ⟨p.a, 0, none⟩), Value.pointer (some ⟨p.b, 0, none⟩)] : Array Value).toList, u.oneCell' = true) := Mm.hid (fun u hu => by simp at hu; rcases hu with rfl | rfl <;> rfl)
        go_wp2_with (at_builtin; go_must (refine wp_ape1 w1.heap.size rfl _ _ 47 52 (.agg #[.pointer none, .pointer none]) 2 16 #[.pointer (some ⟨p.a, 0, none⟩), .pointer (some ⟨p.b, 0, none⟩)] rfl Try.underlying47 info52 rfl (by decide) (by decide) u6 ps.length (ps.flatMap fP) rfl rfl rfl ONE.out ((Fr.of_below HP.out.2.2.2).own P2.out.own (fun _ _ h => h)) (Below.refl _ _) (Nat.le_trans hsz HP.out.2.2.2.size) (by rw [P1.out]; omega) ?_))
        intro v1 w3 k1 k2 k3 k4
        have PN := Mm.hid (Inv.push P2.out hsz HP.out.2.1 HP.out.2.2.1 HP.out.2.2.2 k1 k3 (by rcases k4 with k4 | ⟨b, k4, k5, _⟩; exact .inl k4; exact .inr ⟨b, k4, k5⟩))
        have PL := Mm.hid (show (ps ++ [p]).length = k + 1 by simp [P1.out])
        clear k1 k2 k3 k4 c0 c1
        go_wp2
        go_roundw
        case rel => exact ⟨k + 1, by omega, by go_num, _, _, _, PL.out, PN.out⟩
        case measure => simp [intOf]; omega
    · have hkn : k = n := by omega
      subst hkn
      obtain ⟨ps, rs, Zs, p1, p2⟩ := HK.out
      obtain ⟨A1, c1, rfl, _, hA, _⟩ := own_slice p2.own
      have HA := Mm.hid hA
      have P1 := Mm.hid p1
      have hsz := p2.bel.size
      rw [p1] at p2
      have P2 := Mm.hid p2
      clear HK hlt p1 p2 hA R1 G L R
      rw [P1.out]
      rename_i wq _
      go_wp2_with fail
      go_loopw [5, 9] (fun o i wr => ∃ j : Nat, j ≤ n' ∧ o = .bool true ∧ i = .int .i64 (j : Nat) ∧ Hid (∃ Zs, Inv w1.heap.size w1 wr (.slice A1 k c1) ps rs Zs)) (fun _ i _ => n' - (intOf i).toNat)
      case atStart => exact ⟨0, by omega, rfl, rfl, _, P2.out⟩
      case round =>
        clear P2 R R' hk
        obtain ⟨j, hj, rfl, rfl, HK⟩ := hrel
        by_cases hlt : j < n'
        · by_cases hk0 : 0 < k
          · obtain ⟨Zs1, i2⟩ := HK.out
            clear HK
            obtain ⟨x, hx⟩ : ∃ x, ys[j]? = some x := ⟨_, List.getElem?_eq_getElem (by rw [L'.out]; exact hlt)⟩
            obtain ⟨ad, hA', had, o0, o1, o2, o3⟩ := rd_op R2.out hx L'.out
            subst hA'
            have F1 := Mm.hid (Fr.of_below i2.bel)
            have q0 := F1.out.cell o0 (fun h => h)
            have q1 := F1.out.cell o1 (fun h => h)
            have q2 := F1.out.cell o2 (fun h => h)
            have q3 := F1.out.cell o3 (fun h => h)
            have hs2 := i2.bel.size
            obtain ⟨ad1, rfl⟩ : ∃ ad1, A1 = some ad1 := i2.hasAd P1.out hk0
            have GET : Hid (∀ (t : Nat) (W : World), t < k → Fr (fun _ => False) wr W → ∃ p r S, Hid (ps[t]? = some p) ∧ Hid (rs[t]? = some r) ∧ Hid (Zs1[t]? = some S) ∧ W.cell? (ad1.add (t * 2)) = some (.pointer (some ⟨p.a, 0, none⟩)) ∧ W.cell? ⟨(ad1.add (t * 2)).block, (ad1.add (t * 2)).off + 1, none⟩ = some (.pointer (some ⟨p.b, 0, none⟩))) := Mm.hid (fun t W ht hf => i2.get P1.out ht hf)
            have I2 := Mm.hid i2
            have kz : (0 : Int) < (k : Int) := by omega
            have z1 : (j : Int) < (n' : Int) := by omega
            clear i2 had o0 o1 o2 o3 hx
            go_wp2_with fail
            refine (at_any _ k _ (by omega) (by omega)).mono ?_
            rintro e w' ⟨t, ht, rfl, rfl, _⟩
            obtain ⟨p, r, S, P3, P4, P5, c0, c1⟩ := GET.out t (wr.alloc (.cells #[.int .i64 x.kd, .int .i64 x.s, .int .i64 x.o, .int .i64 x.n] 54)) ht (Fr.alloc _ _ _)
            have c2 : (wr.alloc (.cells #[.int .i64 x.kd, .int .i64 x.s, .int .i64 x.o, .int .i64 x.n] 54)).cell? (ad.add (j * 4)) = some (.int .i64 x.kd) := (Fr.alloc (fun _ => False) _ _).cell q0 (fun h => h)
            have G0 := I2.out.prs.get t p r S P3.out P4.out P5.out
            have hi := G0.top
            clear G0 c2
            by_cases ho : x.o = -1
            · have hz : (x.o == -1) = true := by simpa using ho
              have QQ : Hid (OthQ ps none none) := Mm.hid (.inl ⟨rfl, rfl⟩)
              clear ho
              go_wp2_with fail
              have EE := Mm.hid (three0 wr #[.int .i64 x.kd, .int .i64 x.s, .int .i64 x.o, .int .i64 x.n] #[.pointer (some ⟨p.a, 0, none⟩), .pointer (some ⟨p.b, 0, none⟩)] #[.pointer none, .pointer none])
              obtain ⟨E1, E2, E3, E4⟩ := EE.out
              have IW := Mm.hid (I2.out.below hs2 E4)
              have hs3 := Nat.le_trans hs2 E4.size
              refine (one_any p r S _ _ _ _ _ (IW.out.prs.get t p r S P3.out P4.out P5.out)).mono ?_
              rintro e w2 ⟨rfl, S2, n2, f2⟩
              have J2 := Mm.hid (IW.out.turn P3.out P4.out hs3 n2 f2)
              have P6 := Mm.hid (IW.out.set P5.out S2)
              have e1 := f2.blk E1 (fun h => by have := h.2; omega)
              have e2 := f2.blk E2 (fun h => by have := h.2; omega)
              have e3 := f2.blk E3 (fun h => by have := h.2; omega)
              have a0 := e1.cell 0
              have a1 := e1.cell 1
              have a2 := e1.cell 2
              have a3 := e1.cell 3
              have a4 := e2.cell 0
              have a5 := e2.cell 1
              have a6 := e3.cell 0
              have a7 := e3.cell 1
              dsimp at a0 a1 a2 a3 a4 a5 a6 a7
              have hs4 := Nat.le_trans hs3 f2.size
              obtain ⟨T, OT⟩ := J2.out.oth QQ.out P3.out P6.out
              have OT := Mm.hid OT
              clear EE E1 E2 E3 E4 e1 e2 e3 q0 q1 q2 q3 c0 c1
              clear n2 f2
              go_wp2_with fail
              refine (two_any p r S2 T _ _ _ _ _ _ _ (J2.out.prs.get t p r S2 P3.out P4.out P6.out) OT.out).mono ?_
              rintro e w3 ⟨rfl, S3, n3, f3⟩
              have J3 := Mm.hid (J2.out.turn P3.out P4.out hs4 n3 f3)
              clear a0 a1 a2 a3 a4 a5 a6 a7 n3 f3
              go_wp2
              go_roundw
              case rel => exact ⟨j + 1, by omega, rfl, by go_num, _, J3.out⟩
              case measure => simp [intOf]; omega
            · have hz : (x.o == -1) = false := by simpa using ho
              clear ho
              go_wp2_with fail
              refine (at_any _ k _ (by omega) (by omega)).mono ?_
              rintro e w' ⟨t', ht', rfl, rfl, _⟩
              obtain ⟨q, r', S', U3, U4, U5, d0, d1⟩ := GET.out t' (((wr.alloc (.cells #[.int .i64 x.kd, .int .i64 x.s, .int .i64 x.o, .int .i64 x.n] 54)).alloc (.cells #[.pointer (some ⟨p.a, 0, none⟩), .pointer (some ⟨p.b, 0, none⟩)] 52)).alloc (.cells #[.pointer none, .pointer none] 52)) ht' (((Fr.alloc (fun _ => False) _ _).trans (Fr.alloc (fun _ => False) _ _) (fun _ _ h => h)).trans (Fr.alloc _ _ _) (fun _ _ h => h))
              have QQ : Hid (OthQ ps (some ⟨q.a, 0, none⟩) (some ⟨q.b, 0, none⟩)) := Mm.hid (.inr ⟨t', q, U3.out, rfl, rfl⟩)
              clear U4 U5
              go_wp2_with fail
              have EE := Mm.hid (three0 wr #[.int .i64 x.kd, .int .i64 x.s, .int .i64 x.o, .int .i64 x.n] #[.pointer (some ⟨p.a, 0, none⟩), .pointer (some ⟨p.b, 0, none⟩)] #[.pointer (some ⟨q.a, 0, none⟩), .pointer (some ⟨q.b, 0, none⟩)])
              obtain ⟨E1, E2, E3, E4⟩ := EE.out
              have IW := Mm.hid (I2.out.below hs2 E4)
              have hs3 := Nat.le_trans hs2 E4.size
              refine (one_any p r S _ _ _ _ _ (IW.out.prs.get t p r S P3.out P4.out P5.out)).mono ?_
              rintro e w2 ⟨rfl, S2, n2, f2⟩
              have J2 := Mm.hid (IW.out.turn P3.out P4.out hs3 n2 f2)
              have P6 := Mm.hid (IW.out.set P5.out S2)
              have e1 := f2.blk E1 (fun h => by have := h.2; omega)
              have e2 := f2.blk E2 (fun h => by have := h.2; omega)
              have e3 := f2.blk E3 (fun h => by have := h.2; omega)
              have a0 := e1.cell 0
              have a1 := e1.cell 1
              have a2 := e1.cell 2
              have a3 := e1.cell 3
              have a4 := e2.cell 0
              have a5 := e2.cell 1
              have a6 := e3.cell 0
              have a7 := e3.cell 1
              dsimp at a0 a1 a2 a3 a4 a5 a6 a7
              have hs4 := Nat.le_trans hs3 f2.size
              obtain ⟨T, OT⟩ := J2.out.oth QQ.out P3.out P6.out
              have OT := Mm.hid OT
              clear EE E1 E2 E3 E4 e1 e2 e3 q0 q1 q2 q3 c0 c1
              clear n2 f2
              go_wp2_with fail
              refine (two_any p r S2 T _ _ _ _ _ _ _ (J2.out.prs.get t p r S2 P3.out P4.out P6.out) OT.out).mono ?_
              rintro e w3 ⟨rfl, S3, n3, f3⟩
              have J3 := Mm.hid (J2.out.turn P3.out P4.out hs4 n3 f3)
              clear a0 a1 a2 a3 a4 a5 a6 a7 n3 f3
              go_wp2
              go_roundw
              case rel => exact ⟨j + 1, by omega, rfl, by go_num, _, J3.out⟩
              case measure => simp [intOf]; omega
          · have kz : ¬ ((0 : Int) < (k : Int)) := by omega
            obtain ⟨Zs1, i2⟩ := HK.out
            clear HK
            have I2 := Mm.hid i2
            clear i2
            go_wp2_with fail
            go_loopw [5, 15] (fun o i wr => ∃ t : Nat, t ≤ k ∧ o = .bool true ∧ i = .int .i64 (t : Nat) ∧ Hid (Inv w1.heap.size w1 wr (.slice A1 k c1) ps rs Zs1)) (fun _ i _ => k - (intOf i).toNat)
            case atStart => exact ⟨0, by omega, rfl, rfl, I2⟩
            case round =>
              clear I2
              obtain ⟨t, ht, rfl, rfl, HK⟩ := hrel
              by_cases hl3 : t < k
              · have hs5 := HK.out.bel.size
                have z3 : (t : Int) < (k : Int) := by omega
                obtain ⟨ad1, rfl⟩ : ∃ ad1, A1 = some ad1 := HK.out.hasAd P1.out (by omega)
                obtain ⟨p, r, S, P3, P4, P5, c0, c1⟩ := HK.out.get P1.out hl3 (Fr.refl _ _)
                go_wp2_with fail
                refine (alike_any p r S wr (HK.out.prs.get t p r S P3.out P4.out P5.out)).mono ?_
                rintro e w2 ⟨rfl, f2⟩
                have J3 := Mm.hid (HK.out.below hs5 f2)
                clear c0 c1 f2
                go_wp2
                go_roundw
                case rel => exact ⟨t + 1, by omega, rfl, by go_num, J3⟩
                case measure => simp [intOf]; omega
              · have z3 : ¬ ((t : Int) < (k : Int)) := by omega
                have FIN := Mm.hid (show Below w.heap.size w wr from B1.out.trans (HK.out.bel.mono B1.out.size))
                clear HK
                go_wp2
                go_ret
                exact ⟨rfl, FIN.out⟩
        · have hjn : j = n' := by omega
          subst hjn
          obtain ⟨Zs1, i2⟩ := HK.out
          clear HK
          have I2 := Mm.hid i2
          clear i2
          go_wp2_with fail
          go_loopw [5, 15] (fun o i wr => ∃ t : Nat, t ≤ k ∧ o = .bool true ∧ i = .int .i64 (t : Nat) ∧ Hid (Inv w1.heap.size w1 wr (.slice A1 k c1) ps rs Zs1)) (fun _ i _ => k - (intOf i).toNat)
          case atStart => exact ⟨0, by omega, rfl, rfl, I2⟩
          case round =>
            clear I2
            obtain ⟨t, ht, rfl, rfl, HK⟩ := hrel
            by_cases hl3 : t < k
            · have hs5 := HK.out.bel.size
              have z3 : (t : Int) < (k : Int) := by omega
              obtain ⟨ad1, rfl⟩ : ∃ ad1, A1 = some ad1 := HK.out.hasAd P1.out (by omega)
              obtain ⟨p, r, S, P3, P4, P5, c0, c1⟩ := HK.out.get P1.out hl3 (Fr.refl _ _)
              go_wp2_with fail
              refine (alike_any p r S wr (HK.out.prs.get t p r S P3.out P4.out P5.out)).mono ?_
              rintro e w2 ⟨rfl, f2⟩
              have J3 := Mm.hid (HK.out.below hs5 f2)
              clear c0 c1 f2
              go_wp2
              go_roundw
              case rel => exact ⟨t + 1, by omega, rfl, by go_num, J3⟩
              case measure => simp [intOf]; omega
            · have z3 : ¬ ((t : Int) < (k : Int)) := by omega
              have FIN := Mm.hid (show Below w.heap.size w wr from B1.out.trans (HK.out.bel.mono B1.out.size))
              clear HK
              go_wp2
              go_ret
              exact ⟨rfl, FIN.out⟩
theorem law_exact (A : Option Addr) (n c : Nat) (xs : List Int) (A' : Option Addr) (n' c' : Nat) (ys : List Ox) (w : World) (s0 : Sl w 1 8 fI gI A n c xs) (s1 : Sl w 4 32 fO gO A' n' c' ys) (hn : n ≤ 1048576) (hn' : n' ≤ 1048576) :
    Calls Try.prog 6 #[.slice A n c, .slice A' n' c'] w fun e w' => e = .returned (.bool true) ∧ Below w.heap.size w w' :=
  law_exact0 A n c xs A' n' c' ys w (by have := s0.rd; rw [show xs.flatMap fI = iL xs from iL_flat xs] at this; exact this) s0.len s0.good s1.rd s1.len hn hn'
end Go.Proofs.Ytdfdicmbfgkekaa

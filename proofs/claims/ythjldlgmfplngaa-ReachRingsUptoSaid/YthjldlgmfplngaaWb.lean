/- Webs: pairs by numbers, plain and in memory. -/
import Derived.Test.YthjldlgmfplngaaCloseN
import Derived.Test.YthjldlgmfplngaaRow
namespace Go.Reach
variable {α : Type} [DecidableEq α]
/-- where a thing stands first (behind all, if nowhere) -/
def pos : List α → α → Nat
  | [], _ => 0
  | a :: l, s => if a = s then 0 else pos l s + 1
theorem pos_at : ∀ {l : List α} {s : α}, s ∈ l → l[pos l s]? = some s
  | a :: l, s, h => by
    unfold pos
    by_cases e : a = s
    · rw [if_pos e, e]; rfl
    · rw [if_neg e]
      exact pos_at ((List.mem_cons.1 h).resolve_left fun h => e h.symm)
theorem pos_lt {l : List α} {s : α} (h : s ∈ l) : pos l s < l.length := (List.getElem?_eq_some_iff.1 (pos_at h)).1
theorem pos_app : ∀ {l m : List α} {s : α}, s ∈ l → pos (l ++ m) s = pos l s
  | a :: l, m, s, h => by
    show (if a = s then 0 else pos (l ++ m) s + 1) = if a = s then 0 else pos l s + 1
    by_cases e : a = s
    · rw [if_pos e, if_pos e]
    · rw [if_neg e, if_neg e, pos_app ((List.mem_cons.1 h).resolve_left fun h => e h.symm)]
theorem pos_out : ∀ {l : List α} {s : α}, s ∉ l → pos l s = l.length
  | [], s, _ => rfl
  | a :: l, s, h => by
    have hn : a ≠ s := fun e => h (by rw [e]; exact List.mem_cons_self ..)
    unfold pos
    rw [if_neg hn, pos_out fun h' => h (List.mem_cons_of_mem _ h')]
    rfl
theorem pos_new : ∀ {l : List α} {s : α}, s ∉ l → pos (l ++ [s]) s = l.length
  | [], s, _ => by simp [pos]
  | a :: l, s, h => by
    have hn : a ≠ s := fun e => h (by rw [e]; exact List.mem_cons_self ..)
    show (if a = s then 0 else pos (l ++ [s]) s + 1) = (a :: l).length
    rw [if_neg hn, pos_new fun h' => h (List.mem_cons_of_mem _ h')]
    rfl
/-- a web: the names by their first standing, and for each side and number the numbers there -/
structure Wb (α : Type) where
  ns : List α
  E : Bool × Nat → List Nat
def Wb.add (W : Wb α) (s : α) : Wb α := if s ∈ W.ns then W else { W with ns := W.ns ++ [s] }
def Wb.link (W : Wb α) (a b : Nat) : Wb α := { W with E := fun k => if k = (true, a) then W.E k ++ [b] else if k = (false, b) then W.E k ++ [a] else W.E k }
def Wb.pair (W : Wb α) (p : α × α) : Wb α :=
  let V := (W.add p.1).add p.2
  V.link (pos V.ns p.1) (pos V.ns p.2)
def web (ps : List (α × α)) : Wb α := ps.foldl Wb.pair ⟨[], fun _ => []⟩
theorem Wb.add_in {W : Wb α} {s : α} (h : s ∈ W.ns) : W.add s = W := if_pos h
theorem Wb.add_out {W : Wb α} {s : α} (h : s ∉ W.ns) : W.add s = { W with ns := W.ns ++ [s] } := if_neg h
theorem Wb.mem_add (W : Wb α) (s : α) : s ∈ (W.add s).ns := by
  unfold Wb.add; split
  · assumption
  · simp
theorem Wb.sub_add (W : Wb α) (s : α) {t : α} (h : t ∈ W.ns) : t ∈ (W.add s).ns := by
  unfold Wb.add; split
  · assumption
  · simp [h]
theorem Wb.add_E (W : Wb α) (s : α) : (W.add s).E = W.E := by unfold Wb.add; split <;> rfl
theorem Wb.pos_add (W : Wb α) (s : α) {t : α} (h : t ∈ W.ns) : pos (W.add s).ns t = pos W.ns t := by
  unfold Wb.add; split
  · rfl
  · exact pos_app h
end Go.Reach
namespace Go.Proofs.Ythjldlgmfplngaa
open Go.RowKit Go.Mm Go.Maps Go.Reach Go.WideMaps
/-- numbers as values -/
def iN (l : List Nat) : List Value := l.map fun n => Value.int .i64 (n : Nat)
theorem iN_get {l : List Nat} {j x : Nat} (h : l[j]? = some x) : (iN l)[j]? = some (.int .i64 (x : Nat)) := by simp [iN, h]
theorem iN_len (l : List Nat) : (iN l).length = l.length := by simp [iN]
theorem iN_snoc (l : List Nat) (x : Nat) : iN l ++ [.int .i64 (x : Nat)] = iN (l ++ [x]) := by simp [iN]
/-- the rows' values of one side -/
def side (F : Bool × Nat → Value) (b : Bool) (n : Nat) : List Value := (List.range n).map fun i => F (b, i)
theorem side_get {F : Bool × Nat → Value} {b : Bool} {n i : Nat} (h : i < n) : (side F b n)[i]? = some (F (b, i)) := by simp [side, h]
theorem side_len (F : Bool × Nat → Value) (b : Bool) (n : Nat) : (side F b n).length = n := by simp [side]
theorem side_snoc {F : Bool × Nat → Value} {b : Bool} {n : Nat} (h : F (b, n) = nilS) : side F b n ++ [nilS] = side F b (n + 1) := by
  unfold side
  rw [List.range_succ, List.map_append, ← h]; rfl
/-- a web in memory: its own rows -/
structure WebB (base wb n : Nat) (v0 v1 v2 : Value) (F : Bool × Nat → Value) (W : Wb ByteArray) (w : World) : Prop where
  box : Blk w wb 83 #[v0, v1, v2]
  len : W.ns.length = n
  nm : w.ownsRow base 9 1 v0 n (strs W.ns)
  r1 : w.ownsRow base 22 1 v1 n (side F true n)
  r2 : w.ownsRow base 22 1 v2 n (side F false n)
  row : ∀ k, w.ownsRow base 3 1 (F k) (W.E k).length (iN (W.E k))
  ap : ∀ k k' b, k ≠ k' → (F k).ownBlock = some b → (F k').ownBlock ≠ some b
  ap12 : ∀ b, v1.ownBlock = some b → v2.ownBlock ≠ some b
  out : ∀ k, n ≤ k.2 → W.E k = [] ∧ F k = nilS
  ge : base ≤ wb
def WebG (wb : Nat) (v0 v1 v2 : Value) (F : Bool × Nat → Value) (k : Nat) : Prop := k = wb ∨ v0.ownBlock = some k ∨ v1.ownBlock = some k ∨ v2.ownBlock = some k ∨ ∃ q, (F q).ownBlock = some k
section
variable {base wb n : Nat} {v0 v1 v2 : Value} {F : Bool × Nat → Value} {W : Wb ByteArray} {w w' : World} {T : Nat → Prop}
theorem WebB.fr (h : WebB base wb n v0 v1 v2 F W w) (hf : Fr T w w') (hT : ∀ k, T k → ¬ WebG wb v0 v1 v2 F k) : WebB base wb n v0 v1 v2 F W w' :=
  ⟨hf.blk h.box fun ht => hT _ ht (.inl rfl), h.len, hf.own h.nm fun _ hb ht => hT _ ht (.inr (.inl hb)), hf.own h.r1 fun _ hb ht => hT _ ht (.inr (.inr (.inl hb))), hf.own h.r2 fun _ hb ht => hT _ ht (.inr (.inr (.inr (.inl hb)))), fun k => hf.own (h.row k) fun _ hb ht => hT _ ht (.inr (.inr (.inr (.inr ⟨k, hb⟩)))), h.ap, h.ap12, h.out, h.ge⟩
theorem WebB.frn (h : WebB base wb n v0 v1 v2 F W w) (hf : Fr (fun _ => False) w w') : WebB base wb n v0 v1 v2 F W w' := h.fr hf fun _ h => h.elim
theorem WebB.glt (h : WebB base wb n v0 v1 v2 F W w) : ∀ k, WebG wb v0 v1 v2 F k → base ≤ k ∧ k < w.heap.size := by
  rintro k (rfl | hk | hk | hk | ⟨q, hk⟩)
  · exact ⟨h.ge, h.box.lt⟩
  · exact own_lt h.nm hk
  · exact own_lt h.r1 hk
  · exact own_lt h.r2 hk
  · exact own_lt (h.row q) hk
/-- a name more -/
theorem WebB.name (h : WebB base wb n v0 v1 v2 F W w) {s : ByteArray} {u0 u1 u2 : Value} {wa wb' wc : World}
    (f1 : Fr (fun k => v0.ownBlock = some k) w wa) (o0 : wa.ownsRow base 9 1 u0 (n + 1) (strs W.ns ++ [.string s]))
    (f2 : Fr (fun k => v1.ownBlock = some k) wa wb') (o1 : wb'.ownsRow base 22 1 u1 (n + 1) (side F true n ++ [nilS])) (k1 : ∀ k, u1.ownBlock = some k → v1.ownBlock = some k ∨ wa.heap.size ≤ k)
    (f3 : Fr (fun k => v2.ownBlock = some k) wb' wc) (o2 : wc.ownsRow base 22 1 u2 (n + 1) (side F false n ++ [nilS])) (k2 : ∀ k, u2.ownBlock = some k → v2.ownBlock = some k ∨ wb'.heap.size ≤ k) :
    WebB base wb (n + 1) u0 u1 u2 F { W with ns := W.ns ++ [s] } (((wc.setCell ⟨wb, 0, none⟩ u0).setCell ⟨wb, 1, none⟩ u1).setCell ⟨wb, 2, none⟩ u2) ∧ Fr (fun k => WebG wb v0 v1 v2 F k) w (((wc.setCell ⟨wb, 0, none⟩ u0).setCell ⟨wb, 1, none⟩ u1).setCell ⟨wb, 2, none⟩ u2) := by
  have n0 : v0.ownBlock ≠ some wb := own_ne h.nm h.box (by decide)
  have n1 : v1.ownBlock ≠ some wb := own_ne h.r1 h.box (by decide)
  have n2 : v2.ownBlock ≠ some wb := own_ne h.r2 h.box (by decide)
  have B1 := f1.blk h.box n0
  have B2 := f2.blk B1 n1
  have B3 := f3.blk B2 n2
  have R1a := f1.own h.r1 fun b hb e => own_own_ne h.r1 h.nm (by decide) hb e
  have R2a := f1.own h.r2 fun b hb e => own_own_ne h.r2 h.nm (by decide) hb e
  have R2b := f2.own R2a fun b hb e => h.ap12 b e hb
  have q0 : ∀ b, u0.ownBlock = some b → b ≠ wb := fun b hb e => own_ne o0 B1 (by decide) (e ▸ hb)
  have q1 : ∀ b, u1.ownBlock = some b → b ≠ wb := fun b hb e => own_ne o1 B2 (by decide) (e ▸ hb)
  have q2 : ∀ b, u2.ownBlock = some b → b ≠ wb := fun b hb e => own_ne o2 B3 (by decide) (e ▸ hb)
  have s3 : Fr (fun k => k = wb) wc (((wc.setCell ⟨wb, 0, none⟩ u0).setCell ⟨wb, 1, none⟩ u1).setCell ⟨wb, 2, none⟩ u2) := ((Fr.setCell wc ⟨wb, 0, none⟩ u0).trans (Fr.setCell _ ⟨wb, 1, none⟩ u1) fun _ _ e => e).trans (Fr.setCell _ ⟨wb, 2, none⟩ u2) fun _ _ e => e
  have O0 := f3.own (f2.own o0 fun b hb e => own_own_ne o0 R1a (by decide) hb e) fun b hb e => own_own_ne (f2.own o0 fun b hb e => own_own_ne o0 R1a (by decide) hb e) R2b (by decide) hb e
  have O1 := f3.own o1 fun b hb e => by
    rcases k1 b hb with h1 | h1
    · exact h.ap12 b h1 e
    · have := (own_lt R2a e).2; omega
  refine ⟨⟨((B3.set 0 u0).set 1 u1).set 2 u2, by simp [h.len], ?_, ?_, ?_, fun k => ?_, h.ap, fun b h1 h2 => ?_, fun k hk => h.out k (by omega), h.ge⟩, ?_⟩
  · rw [← strs_snoc]; exact s3.own O0 q0
  · rw [← side_snoc (h.out (true, n) (Nat.le_refl _)).2]; exact s3.own O1 q1
  · rw [← side_snoc (h.out (false, n) (Nat.le_refl _)).2]; exact s3.own o2 q2
  · have a1 := f1.own (h.row k) fun b hb e => own_own_ne (h.row k) h.nm (by decide) hb e
    have a2 := f2.own a1 fun b hb e => own_own_ne a1 R1a (by decide) hb e
    have a3 := f3.own a2 fun b hb e => own_own_ne a2 R2b (by decide) hb e
    exact s3.own a3 fun b hb e => own_ne a3 B3 (by decide) (e ▸ hb)
  · rcases k2 b h2 with h2 | h2
    · rcases k1 b h1 with h1 | h1
      · exact h.ap12 b h1 h2
      · have := (own_lt R2a h2).2; omega
    · have := (own_lt o1 h1).2; omega
  · refine (((f1.mono (T := WebG wb v0 v1 v2 F) fun k e => .inr (.inl e)).trans f2 fun k _ e => .inr (.inr (.inl e))).trans f3 fun k _ e => .inr (.inr (.inr (.inl e)))).trans s3 fun k _ e => .inl e
end
end Go.Proofs.Ythjldlgmfplngaa

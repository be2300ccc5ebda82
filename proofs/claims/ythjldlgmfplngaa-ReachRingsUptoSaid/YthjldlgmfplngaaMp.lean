/- Memory in walks, over any program: a map as a function from keys to values. -/
import Derived.Test.YthjldlgmfplngaaMo
import Derived.Maps.OwnSet
namespace Go.Mm
open Go.RowKit Go.Maps
/-- a value reads as itself -/
def hR (v : Value) : Option (DataW Value × List MemPlace) := some (.held v, [])
variable {β : Type} {P : Program} {kt : TypeId} {κ : β → Lit}
structure MapB (P : Program) (kt : TypeId) (κ : β → Lit) (w : World) (b n : Nat) (M : β → Option Value) : Prop where mk ::
  out : ∃ D, w.ownsMap P kt hR b n D ∧ ∀ x, has D (κ x) = (M x).isSome ∧ ∀ z, D.atKey (κ x) (.held z) = .held ((M x).getD z)
def upd [DecidableEq β] (M : β → Option Value) (x : β) (v : Value) (y : β) : Option Value := if y = x then some v else M y
section
variable {w w' : World} {b n : Nat} {M : β → Option Value}
theorem MapB.made (w : World) : MapB P kt κ (w.alloc (.map #[] 0)) w.heap.size 0 fun _ => none :=
  ⟨_, World.ownsMap_made w P kt hR, fun _ => ⟨rfl, fun _ => rfl⟩⟩
theorem MapB.lt (h : MapB P kt κ w b n M) : b < w.heap.size := by
  obtain ⟨D, h1, _⟩ := h.out
  exact h1.lt
theorem MapB.keep (h : MapB P kt κ w b n M) (hk : w'.heap[b]? = w.heap[b]?) : MapB P kt κ w' b n M := by
  obtain ⟨D, ⟨es, clock, hb, r⟩, h2⟩ := h.out
  exact ⟨D, ⟨es, clock, hk.trans hb, r⟩, h2⟩
theorem MapB.fr {T : Nat → Prop} (h : MapB P kt κ w b n M) (hf : Fr T w w') (hT : ¬ T b) : MapB P kt κ w' b n M := h.keep (hf.block b h.lt hT)
theorem MapB.mono (h : MapB P kt κ w b n M) {n' : Nat} (hn : n ≤ n') : MapB P kt κ w b n' M := by
  obtain ⟨D, h1, h2⟩ := h.out
  exact ⟨D, h1.mono hn, h2⟩
theorem MapB.to {M' : β → Option Value} (h : MapB P kt κ w b n M) (he : ∀ x, M x = M' x) : MapB P kt κ w b n M' := by
  rw [← funext he]; exact h
/-- a map's block is no row of cells -/
theorem MapB.ne_blk (h : MapB P kt κ w b n M) {g : Nat} {t : TypeId} {cs : Array Value} (hb : Blk w g t cs) : b ≠ g := by
  rintro rfl
  obtain ⟨D, ⟨es, clock, h1, _⟩, _⟩ := h.out
  unfold Blk at hb
  rw [hb] at h1
  cases h1
theorem MapB.ne_own (h : MapB P kt κ w b n M) {base e sz m : Nat} {v : Value} {xs : List Value} (ho : w.ownsRow base e sz v m xs) : v.ownBlock ≠ some b := by
  intro hv
  rcases ho.2 with ⟨rfl, _⟩ | ⟨g, cap, cur, rfl, _, hg, _⟩
  · cases hv
  · have : g = b := by simpa [Value.ownBlock] using hv
    subst this
    obtain ⟨D, ⟨es, clock, h1, _⟩, _⟩ := h.out
    rw [hg] at h1
    cases h1
theorem MapB.ne_map {β' : Type} {κ' : β' → Lit} {kt' b' n' : Nat} {M' : β' → Option Value} (_ : MapB P kt κ w b n M) (_ : MapB P kt' κ' w b' n' M') (hne : b ≠ b') : b' ≠ b := hne.symm
/-- the run of a look -/
theorem MapB.look (h : MapB P kt κ w b n M) (K : Keyed P kt) {t e : TypeId} (ht : P.underlying t = some (.map kt e)) {z : Value} (hz : (zeroValue e).run P w = .ok z w) {y : β} {key : Value} (hkey : keyOf P kt key = some (κ y)) :
    (Instr.lookup t (.map (some b)) key false).run P w = .ok ((M y).getD z) w := by
  obtain ⟨D, h1, h2⟩ := h.out
  obtain ⟨v, ps, hr, hv⟩ := h1.lookup K ht hz (zd := .held z) (zp := []) rfl hkey
  rw [(h2 y).2 z] at hv
  simp only [hR, Option.some.injEq, Prod.mk.injEq, DataW.held.injEq] at hv
  rw [hr, hv.1]
theorem MapB.look_ok (h : MapB P kt κ w b n M) (K : Keyed P kt) {t e : TypeId} (ht : P.underlying t = some (.map kt e)) {z : Value} (hz : (zeroValue e).run P w = .ok z w) {y : β} {key : Value} (hkey : keyOf P kt key = some (κ y)) :
    (Instr.lookup t (.map (some b)) key true).run P w = .ok (.tuple #[(M y).getD z, .bool (M y).isSome]) w := by
  obtain ⟨D, h1, h2⟩ := h.out
  obtain ⟨v, ps, hr, hv⟩ := h1.look_ok K ht hz (zd := .held z) (zp := []) rfl hkey
  rw [(h2 y).2 z] at hv
  simp only [hR, Option.some.injEq, Prod.mk.injEq, DataW.held.injEq] at hv
  rw [hr, hv.1, (h2 y).1]
/-- the run of a store -/
theorem MapB.put [DecidableEq β] (h : MapB P kt κ w b n M) (K : Keyed P kt) (hκ : ∀ x y, κ x = κ y → x = y) (hl : ∀ x, WideAt.IsKeyLit (κ x)) {t e : TypeId} (ht : P.underlying t = some (.map kt e)) (hn : n < maxLen) {y : β} {key : Value} (hkey : keyOf P kt key = some (κ y)) (v : Value) :
    ∃ w', (Instr.mapUpdate t (.map (some b)) key v).run P w = .ok () w' ∧ MapB P kt κ w' b (n + 1) (upd M y v) ∧ w.grownBy w' (some b) := by
  obtain ⟨D, h1, h2⟩ := h.out
  obtain ⟨w', hr, h3, h4⟩ := h1.update K ht hn (val := v) (d := .held v) (ps := []) hkey rfl
  refine ⟨w', hr, ⟨D.put (κ y) (.held v), h3, fun x => ?_⟩, h4⟩
  by_cases e : x = y
  · subst e
    refine ⟨?_, fun z => ?_⟩
    · rw [has_put_same h1.isMap (hl x)]; simp [upd]
    · rw [atKey_put_same h1.isMap (hl x)]; simp [upd]
  · have hne : κ x ≠ κ y := fun h => e (hκ x y h)
    refine ⟨?_, fun z => ?_⟩
    · rw [has_put_other hne, (h2 x).1]; simp [upd, e]
    · rw [atKey_put_other hne, (h2 x).2]; simp [upd, e]
end
/-! at the operation -/
section
variable {w : World} {ops : Array Oper} {rest : List Oper} {o : Oper} {a : Act} {Q : Exit → Act → World → Prop} {K' : Act → World → Prop} {E : Prop}
theorem wp_look {b n : Nat} {M : β → Option Value} (hg : o.guard = none) (m x : Operand) (t : TypeId) (hop : o.op = Op.lookup t m x false) (e : TypeId) (K : Keyed P kt) (ht : P.underlying t = some (.map kt e)) {z : Value} (hz : (zeroValue e).run P w = .ok z w)
    (hown : MapB P kt κ w b n M) (hm : a.eval m = .map (some b)) (key : Value) (hx : a.eval x = key) (y : β) (hkey : keyOf P kt key = some (κ y)) (v : Value) (hv : (M y).getD z = v)
    (hK : wpList P ops Q rest (a.put o.dst v) w) : wpList P ops Q (o :: rest) a w := by
  refine wpList_plain hg fun K' hK' => ?_
  have hrun := hown.look K ht hz hkey
  rw [hv] at hrun
  unfold Oper.wp
  simp [execOp, hop, hm, hx, hrun, Result.andThen]
  exact hK' _ _ hK
theorem wp_look_ok {b n : Nat} {M : β → Option Value} (hg : o.guard = none) (m x : Operand) (t : TypeId) (hop : o.op = Op.lookup t m x true) (e : TypeId) (K : Keyed P kt) (ht : P.underlying t = some (.map kt e)) {z : Value} (hz : (zeroValue e).run P w = .ok z w)
    (hown : MapB P kt κ w b n M) (hm : a.eval m = .map (some b)) (key : Value) (hx : a.eval x = key) (y : β) (hkey : keyOf P kt key = some (κ y)) (v : Value) (hv : (M y).getD z = v) (ok : Bool) (hok : (M y).isSome = ok)
    (hK : wpList P ops Q rest (a.put o.dst (.tuple #[v, .bool ok])) w) : wpList P ops Q (o :: rest) a w := by
  refine wpList_plain hg fun K' hK' => ?_
  have hrun := hown.look_ok K ht hz hkey
  rw [hv, hok] at hrun
  unfold Oper.wp
  simp [execOp, hop, hm, hx, hrun, Result.andThen]
  exact hK' _ _ hK
theorem wp_put [DecidableEq β] {b n : Nat} {M : β → Option Value} (hg : o.guard = none) (m x v : Operand) (t : TypeId) (hop : o.op = Op.mapUpdate t m x v) (e : TypeId) (K : Keyed P kt) (hκ : ∀ x y, κ x = κ y → x = y) (hl : ∀ x, WideAt.IsKeyLit (κ x)) (ht : P.underlying t = some (.map kt e))
    (hown : MapB P kt κ w b n M) (hn : n < maxLen) (hm : a.eval m = .map (some b)) (key val : Value) (hx : a.eval x = key) (hv : a.eval v = val) (y : β) (hkey : keyOf P kt key = some (κ y))
    (hK : ∀ w', MapB P kt κ w' b (n + 1) (upd M y val) → w.grownBy w' (some b) → wpList P ops Q rest (a.put o.dst undef) w') : wpList P ops Q (o :: rest) a w := by
  refine wpList_plain hg fun K' hK' => ?_
  obtain ⟨w', hrun, r1, r2⟩ := hown.put K hκ hl ht hn hkey val
  unfold Oper.wp
  simp [execOp, hop, hm, hx, hv, hrun, Result.andThen]
  exact hK' _ _ (hK w' r1 r2)
/-- a store at a step of a region that draws its order -/
theorem step_put [DecidableEq β] {b n : Nat} {M : β → Option Value} (hg : o.guard = none) (m x v : Operand) (t : TypeId) (hop : o.op = Op.mapUpdate t m x v) (e : TypeId) (K : Keyed P kt) (hκ : ∀ x y, κ x = κ y → x = y) (hl : ∀ x, WideAt.IsKeyLit (κ x)) (ht : P.underlying t = some (.map kt e))
    (hown : MapB P kt κ w b n M) (hn : n < maxLen) (hm : a.eval m = .map (some b)) (key val : Value) (hx : a.eval x = key) (hv : a.eval v = val) (y : β) (hkey : keyOf P kt key = some (κ y))
    (hK : ∀ w', MapB P kt κ w' b (n + 1) (upd M y val) → w.grownBy w' (some b) → K' (a.put o.dst undef) w') :
    if Region.wanted o (yielded ops a.tmps) = true then Oper.wp P o a w K' Q else E := by
  have hw : Region.wanted o (yielded ops a.tmps) = true := by simp [Region.wanted, hg]
  rw [if_pos hw]
  obtain ⟨w', hrun, r1, r2⟩ := hown.put K hκ hl ht hn hkey val
  unfold Oper.wp
  simp [execOp, hop, hm, hx, hv, hrun, Result.andThen]
  exact hK w' r1 r2
end
/-! names as keys -/
def κs (s : ByteArray) : Lit := .string s.data.toList
theorem κs_inj (s t : ByteArray) (h : κs s = κs t) : s = t := by
  unfold κs at h
  injection h with h
  cases s; cases t
  simp at h
  subst h; rfl
theorem κs_lit (s : ByteArray) : WideAt.IsKeyLit (κs s) := by simp [κs, WideAt.IsKeyLit]
def κi (n : Int) : Lit := .int .i64 n
theorem κi_inj (s t : Int) (h : κi s = κi t) : s = t := by
  unfold κi at h
  injection h
theorem κi_lit (s : Int) : WideAt.IsKeyLit (κi s) := by simp [κi, WideAt.IsKeyLit]
end Go.Mm

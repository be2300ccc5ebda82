/- Walks: a set and the document's beside it: a call on both. -/
import Derived.Test.YtdfdicmbfgkekaaRef4
import Derived.Deep.RegionWith
namespace Go.Proofs.Ytdfdicmbfgkekaa
open Go.RowKit Go.Mm Go.Bs
structure Pr where mk ::
  a : Nat
  g : Nat
  b : Nat
  l : Nat
  h : Nat
  lo : Nat
  hi : Nat
/-- both in memory, of one room, with the same numbers -/
structure PairB (w : World) (p : Pr) (r : Nat) (S : Nat → Bool) : Prop where mk ::
  set : SetB w p.a p.g r S
  ref : RefB p.l p.h w p.b r S
  ia : p.lo ≤ p.a ∧ p.a < p.hi
  ig : p.lo ≤ p.g ∧ p.g < p.hi
  il : p.lo ≤ p.l ∧ p.h ≤ p.hi
  na : ¬ (p.l ≤ p.a ∧ p.a < p.h)
  ng : ¬ (p.l ≤ p.g ∧ p.g < p.h)
  top : p.hi ≤ w.heap.size
theorem PairB.fr {w w' : World} {p : Pr} {r : Nat} {S : Nat → Bool} {T : Nat → Prop} (h : PairB w p r S) (f : Fr T w w') (hT : ∀ k, p.lo ≤ k → k < p.hi → ¬ T k) : PairB w' p r S :=
  ⟨h.set.fr f (hT _ h.ia.1 h.ia.2) (hT _ h.ig.1 h.ig.2), h.ref.fr f (fun k h1 h2 => hT k (Nat.le_trans h.il.1 h1) (Nat.lt_of_lt_of_le h2 h.il.2)), h.ia, h.ig, h.il, h.na, h.ng, Nat.le_trans h.top f.size⟩
theorem PairB.below {w w' : World} {p : Pr} {r : Nat} {S : Nat → Bool} (h : PairB w p r S) (f : Below w.heap.size w w') : PairB w' p r S := h.fr (Fr.of_below f) fun _ _ _ h => h
def In (p : Pr) (k : Nat) : Prop := p.lo ≤ k ∧ k < p.hi
/-- what a call on both leaves -/
def OneEnds (p : Pr) (r : Nat) (w : World) (e : Ending) (w' : World) : Prop := e = .returned (.bool true) ∧ ∃ S', PairB w' p r S' ∧ Fr (In p) w w'
theorem SetB.drew {w : World} {a g r : Nat} {S : Nat → Bool} (h : SetB w a g r S) : SetB w.drew a g r S := h.fr (Fr.drew (fun _ => False) _) (fun h => h) (fun h => h)
theorem RefB.drew {lo hi b r : Nat} {S : Nat → Bool} {w : World} (h : RefB lo hi w b r S) : RefB lo hi w.drew b r S := h.fr (Fr.drew (fun _ => False) _) (fun _ _ _ h => h)
theorem Fr.drewr {T : Nat → Prop} {w W : World} (h : Fr T w W) : Fr T w W.drew := h.trans (Fr.drew (fun _ => False) _) (fun _ _ h => h.elim)
theorem frnext {lo hi : Nat} {T : Nat → Prop} {w W w1 : World} (h : Fr (fun k => lo ≤ k ∧ k < hi) w W) (f : Fr T W w1) (hT : ∀ k, T k → lo ≤ k ∧ k < hi) : Fr (fun k => lo ≤ k ∧ k < hi) w w1 := h.trans f fun k _ hk => hT k hk
theorem count_b (a g r : Nat) (S : Nat → Bool) (w : World) (h : SetB w a g r S) : Calls Try.prog 15 #[.pointer (some ⟨a, 0, none⟩)] w fun e w' => e = .returned (.int .i64 (cnt S r : Nat)) ∧ Below w.heap.size w w' := (count_any a g r S w h).mono fun _ _ ⟨h1, h2⟩ => ⟨h1, h2 ▸ Below.refl _ _⟩
theorem has_b (a g r : Nat) (S : Nat → Bool) (i : Int) (w : World) (h : SetB w a g r S) : Calls Try.prog 12 #[.pointer (some ⟨a, 0, none⟩), .int .i64 i] w fun e w' => e = .returned (.bool (hasB r S i)) ∧ Below w.heap.size w w' := (has_any a g r S i w h).mono fun _ _ ⟨h1, h2⟩ => ⟨h1, h2 ▸ Below.refl _ _⟩
theorem room_b (a g r : Nat) (S : Nat → Bool) (w : World) (h : SetB w a g r S) : Calls Try.prog 10 #[.pointer (some ⟨a, 0, none⟩)] w fun e w' => e = .returned (.int .i64 (r : Int)) ∧ Below w.heap.size w w' := (room_any a g r S w h).mono fun _ _ ⟨h1, h2⟩ => ⟨h1, h2 ▸ Below.refl _ _⟩
theorem rhas_b (lo hi b r : Nat) (S : Nat → Bool) (i : Int) (w : World) (h : RefB lo hi w b r S) : Calls Try.prog 52 #[.pointer (some ⟨b, 0, none⟩), .int .i64 i] w fun e w' => e = .returned (.bool (hasB r S i)) ∧ Below w.heap.size w w' := (rhas_any lo hi b r S i w h).mono fun _ _ ⟨h1, h2⟩ => ⟨h1, h2 ▸ Below.refl _ _⟩
theorem rroom_b (lo hi b r : Nat) (S : Nat → Bool) (w : World) (h : RefB lo hi w b r S) : Calls Try.prog 54 #[.pointer (some ⟨b, 0, none⟩)] w fun e w' => e = .returned (.int .i64 (r : Int)) ∧ Below w.heap.size w w' := (rroom_any lo hi b r S w h).mono fun _ _ ⟨h1, h2⟩ => ⟨h1, h2 ▸ Below.refl _ _⟩
/-- another pair: none, the same, or one apart -/
def Oth (w : World) (p : Pr) (S : Nat → Bool) (qa qb : Option Addr) (T : Nat → Bool) : Prop :=
  (qa = none ∧ qb = none ∧ T = none0) ∨ (qa = some ⟨p.a, 0, none⟩ ∧ qb = some ⟨p.b, 0, none⟩ ∧ T = S) ∨ ∃ (y : Pr) (r' : Nat), qa = some ⟨y.a, 0, none⟩ ∧ qb = some ⟨y.b, 0, none⟩ ∧ PairB w y r' T ∧ (y.hi ≤ p.lo ∨ p.hi ≤ y.lo)
theorem Oth.fr {w w' : World} {p : Pr} {S T : Nat → Bool} {qa qb : Option Addr} {U : Nat → Prop} (h : Oth w p S qa qb T) (f : Fr U w w') (hU : ∀ k, U k → p.lo ≤ k ∧ k < p.hi) : Oth w' p S qa qb T := by
  rcases h with h | h | ⟨y, r', h1, h2, h3, h4⟩
  · exact .inl h
  · exact .inr (.inl h)
  · exact .inr (.inr ⟨y, r', h1, h2, h3.fr f (fun k k1 k2 hk => by have := hU k hk; omega), h4⟩)
theorem Oth.drew {w : World} {p : Pr} {S T : Nat → Bool} {qa qb : Option Addr} (h : Oth w p S qa qb T) : Oth w.drew p S qa qb T := h.fr (Fr.drew (fun _ => False) _) (fun _ h => h.elim)
theorem Oth.set {w : World} {a g b l h' lo hi : Nat} {S T : Nat → Bool} {qa qb : Option Addr} (h : Oth w ⟨a, g, b, l, h', lo, hi⟩ S qa qb T) (hg : lo ≤ g ∧ g < hi) : Other w a g (.pointer qa) S T := by
  rcases h with ⟨h1, _, h2⟩ | ⟨h1, _, h2⟩ | ⟨y, r', h1, _, h3, h4⟩
  · exact .inl ⟨by rw [h1], h2⟩
  · exact .inr (.inl ⟨by rw [h1], h2⟩)
  · refine .inr (.inr ⟨y.a, y.g, r', by rw [h1], h3.set, fun e => ?_⟩)
    have := h3.ig
    dsimp only at h4
    omega
def othL (r' : Nat) (T : Nat → Bool) : List Nat := ml T r'
theorem Oth.ref {w : World} {a g b l h' lo hi r : Nat} {S T : Nat → Bool} {qa qb : Option Addr} (h : Oth w ⟨a, g, b, l, h', lo, hi⟩ S qa qb T) (hr : RefB l h' w b r S) : ∃ L, ROther w qb T L := by
  rcases h with ⟨_, h1, h2⟩ | ⟨_, h1, h2⟩ | ⟨y, r', _, h1, h3, h4⟩
  · exact ⟨[], .inl ⟨h1, h2, rfl⟩⟩
  · exact ⟨_, .inr ⟨l, h', b, r, h1, h2 ▸ hr, rfl⟩⟩
  · exact ⟨_, .inr ⟨_, _, _, _, h1, h3.ref, rfl⟩⟩
theorem Oth.has {w : World} {a g b l h' lo hi : Nat} {S T : Nat → Bool} {qa qb : Option Addr} (h : Oth w ⟨a, g, b, l, h', lo, hi⟩ S qa qb T) (hil : lo ≤ l ∧ h' ≤ hi) : RHas l h' b 0 S T qb w := by
  rcases h with ⟨_, h1, h2⟩ | ⟨_, h1, h2⟩ | ⟨y, r', _, h1, h3, h4⟩
  · exact .inl ⟨h1, h2⟩
  · exact .inr (.inl ⟨h1, h2⟩)
  · refine .inr (.inr ⟨_, _, _, _, h1, h3.ref, fun k k1 k2 => ?_⟩)
    have := h3.il
    dsimp only at h4
    omega
theorem rjoin_o (lo hi b r : Nat) (S T : Nat → Bool) (q : Option Addr) (w : World) (h : RefB lo hi w b r S) (ho : ∃ L, ROther w q T L) : Calls Try.prog 56 #[.pointer (some ⟨b, 0, none⟩), .pointer q] w (RJoinEnds lo hi b r (cup S (cap T (full r)), chg (cup S (cap T (full r))) S (nw r)) w) := by
  obtain ⟨L, ho⟩ := ho
  exact rjoin_any lo hi b r S T q L w h ho
theorem rless_o (lo hi b r : Nat) (S T : Nat → Bool) (q : Option Addr) (w : World) (h : RefB lo hi w b r S) (ho : ∃ L, ROther w q T L) : Calls Try.prog 58 #[.pointer (some ⟨b, 0, none⟩), .pointer q] w (RJoinEnds lo hi b r (less S T, chg (less S T) S (nw r)) w) := by
  obtain ⟨L, ho⟩ := ho
  exact rless_any lo hi b r S T q L w h ho
theorem box3 (w : World) (c1 c2 c3 : Array Value) (t1 t2 t3 : TypeId) (j : Nat) : (((w.alloc (.cells c1 t1)).alloc (.cells c2 t2)).alloc (.cells c3 t3)).cell? ⟨w.heap.size, j, none⟩ = c1[j]? ∧ (((w.alloc (.cells c1 t1)).alloc (.cells c2 t2)).alloc (.cells c3 t3)).cell? ⟨w.heap.size + 1, j, none⟩ = c2[j]? := by
  have h1 := (((Blk.new w c1 t1).keep (Below.heap_alloc _ (.cells c2 t2) _ (by simp))).keep (Below.heap_alloc _ (.cells c3 t3) _ (by simp; omega))).cell j
  have h2 := Blk.new (w.alloc (.cells c1 t1)) c2 t2
  rw [show (w.alloc (.cells c1 t1)).heap.size = w.heap.size + 1 from by simp] at h2
  exact ⟨h1, (h2.keep (Below.heap_alloc _ (.cells c3 t3) _ (by simp))).cell j⟩
set_option maxRecDepth 100000 in
set_option maxHeartbeats 4000000 in
theorem one_add (p : Pr) (r : Nat) (S : Nat → Bool) (s o n : Int) (w : World) (h : PairB w p r S) :
    Calls Try.prog 31 #[.agg #[.pointer (some ⟨p.a, 0, none⟩), .pointer (some ⟨p.b, 0, none⟩)], .agg #[.int .i64 1, .int .i64 s, .int .i64 o, .int .i64 n]] w (OneEnds p r w) := by
  obtain ⟨a, g, b, l, h', lo, hi⟩ := p
  have H := Mm.hid h
  have hs := h.set
  have hr := h.ref
  have htop := h.top
  have hia := h.ia
  have hig := h.ig
  have hil := h.il
  have hlb := h.ref.lb
  dsimp only at hs hr htop hia hig hil hlb
  have bl := ((Below.refl w.heap.size w).alloc (Nat.le_refl _) (.cells #[.pointer (some ⟨a, 0, none⟩), .pointer (some ⟨b, 0, none⟩)] 52)).alloc (by simp) (.cells #[.int .i64 1, .int .i64 s, .int .i64 o, .int .i64 n] 54)
  have s0 := hs.below bl
  have r0 := hr.below bl
  have q0 := (Fr.of_below bl).mono (T := fun k => lo ≤ k ∧ k < hi) (fun _ h => h.elim)
  have NA := Mm.hid h.na
  have NG := Mm.hid h.ng
  dsimp only at NA NG
  have k0 : ((w.alloc (.cells #[.pointer (some ⟨a, 0, none⟩), .pointer (some ⟨b, 0, none⟩)] 52)).alloc (.cells #[.int .i64 1, .int .i64 s, .int .i64 o, .int .i64 n] 54)).cell? ⟨w.heap.size, 0, none⟩ = some (.pointer (some ⟨a, 0, none⟩)) := by simp
  have k1 : ((w.alloc (.cells #[.pointer (some ⟨a, 0, none⟩), .pointer (some ⟨b, 0, none⟩)] 52)).alloc (.cells #[.int .i64 1, .int .i64 s, .int .i64 o, .int .i64 n] 54)).cell? ⟨w.heap.size, 1, none⟩ = some (.pointer (some ⟨b, 0, none⟩)) := by simp
  have k2 : ((w.alloc (.cells #[.pointer (some ⟨a, 0, none⟩), .pointer (some ⟨b, 0, none⟩)] 52)).alloc (.cells #[.int .i64 1, .int .i64 s, .int .i64 o, .int .i64 n] 54)).cell? ⟨w.heap.size + 1, 3, none⟩ = some (.int .i64 n) := by simp
  clear h hs hr bl
  dsimp only
  go_enter Try.func31, Try.ntmps31
  go_wp2_with fail
  go_region_held3 (fun w' => w'.cell? ⟨w.heap.size, 0, none⟩ = some (.pointer (some ⟨a, 0, none⟩)) ∧ w'.cell? ⟨w.heap.size, 1, none⟩ = some (.pointer (some ⟨b, 0, none⟩)) ∧ w'.cell? ⟨w.heap.size + 1, 3, none⟩ = some (.int .i64 n)) (go_keep)
    (first | (go_at_call 14; refine (add_any a g r S n _ (by first | assumption | (apply SetB.drew; assumption))).mono ?_; rintro e w1 ⟨rfl, s1, f1, -⟩; have c0 := f1.cell (p := ⟨w.heap.size, 0, none⟩) (v := .pointer (some ⟨a, 0, none⟩)) (by first | assumption | simp [*]) (fun (e : w.heap.size = g) => by omega); have c1 := f1.cell (p := ⟨w.heap.size, 1, none⟩) (v := .pointer (some ⟨b, 0, none⟩)) (by first | assumption | simp [*]) (fun (e : w.heap.size = g) => by omega); have c2 := f1.cell (p := ⟨w.heap.size + 1, 3, none⟩) (v := .int .i64 n) (by first | assumption | simp [*]) (fun (e : w.heap.size + 1 = g) => by omega); have r1 := RefB.fr (h := by first | assumption | (apply RefB.drew; assumption)) (f := f1) (fun k h1 h2 (e : k = g) => NG.out ⟨e ▸ h1, e ▸ h2⟩); have q1 := frnext (by first | assumption | (apply Fr.drewr; assumption)) f1 (fun k (e : k = g) => by omega)) | (go_at_call 50; refine (radd_any l h' b r S n _ (by first | assumption | (apply RefB.drew; assumption))).mono ?_; rintro e w1 ⟨rfl, r1, f1, -⟩; have c0 := f1.cell (p := ⟨w.heap.size, 0, none⟩) (v := .pointer (some ⟨a, 0, none⟩)) (by first | assumption | simp [*]) (fun (e : l ≤ w.heap.size ∧ w.heap.size < h') => by omega); have c1 := f1.cell (p := ⟨w.heap.size, 1, none⟩) (v := .pointer (some ⟨b, 0, none⟩)) (by first | assumption | simp [*]) (fun (e : l ≤ w.heap.size ∧ w.heap.size < h') => by omega); have c2 := f1.cell (p := ⟨w.heap.size + 1, 3, none⟩) (v := .int .i64 n) (by first | assumption | simp [*]) (fun (e : l ≤ w.heap.size + 1 ∧ w.heap.size + 1 < h') => by omega); have s1 := SetB.fr (h := by first | assumption | (apply SetB.drew; assumption)) (f := f1) NA.out NG.out; have q1 := frnext (by first | assumption | (apply Fr.drewr; assumption)) f1 (fun k hk => by omega)))
  all_goals go_wp2
  all_goals go_ret
  all_goals exact ⟨rfl, _, ⟨s1, r1, hia, hig, hil, NA.out, NG.out, Nat.le_trans htop q1.size⟩, q1⟩

set_option maxRecDepth 100000 in
set_option maxHeartbeats 4000000 in
theorem one_drop (p : Pr) (r : Nat) (S : Nat → Bool) (s o n : Int) (w : World) (h : PairB w p r S) :
    Calls Try.prog 31 #[.agg #[.pointer (some ⟨p.a, 0, none⟩), .pointer (some ⟨p.b, 0, none⟩)], .agg #[.int .i64 2, .int .i64 s, .int .i64 o, .int .i64 n]] w (OneEnds p r w) := by
  obtain ⟨a, g, b, l, h', lo, hi⟩ := p
  have H := Mm.hid h
  have hs := h.set
  have hr := h.ref
  have htop := h.top
  have hia := h.ia
  have hig := h.ig
  have hil := h.il
  have hlb := h.ref.lb
  dsimp only at hs hr htop hia hig hil hlb
  have bl := ((Below.refl w.heap.size w).alloc (Nat.le_refl _) (.cells #[.pointer (some ⟨a, 0, none⟩), .pointer (some ⟨b, 0, none⟩)] 52)).alloc (by simp) (.cells #[.int .i64 2, .int .i64 s, .int .i64 o, .int .i64 n] 54)
  have s0 := hs.below bl
  have r0 := hr.below bl
  have q0 := (Fr.of_below bl).mono (T := fun k => lo ≤ k ∧ k < hi) (fun _ h => h.elim)
  have NA := Mm.hid h.na
  have NG := Mm.hid h.ng
  dsimp only at NA NG
  have k0 : ((w.alloc (.cells #[.pointer (some ⟨a, 0, none⟩), .pointer (some ⟨b, 0, none⟩)] 52)).alloc (.cells #[.int .i64 2, .int .i64 s, .int .i64 o, .int .i64 n] 54)).cell? ⟨w.heap.size, 0, none⟩ = some (.pointer (some ⟨a, 0, none⟩)) := by simp
  have k1 : ((w.alloc (.cells #[.pointer (some ⟨a, 0, none⟩), .pointer (some ⟨b, 0, none⟩)] 52)).alloc (.cells #[.int .i64 2, .int .i64 s, .int .i64 o, .int .i64 n] 54)).cell? ⟨w.heap.size, 1, none⟩ = some (.pointer (some ⟨b, 0, none⟩)) := by simp
  have k2 : ((w.alloc (.cells #[.pointer (some ⟨a, 0, none⟩), .pointer (some ⟨b, 0, none⟩)] 52)).alloc (.cells #[.int .i64 2, .int .i64 s, .int .i64 o, .int .i64 n] 54)).cell? ⟨w.heap.size + 1, 3, none⟩ = some (.int .i64 n) := by simp
  clear h hs hr bl
  dsimp only
  go_enter Try.func31, Try.ntmps31
  go_wp2_with fail
  go_region_held3 (fun w' => w'.cell? ⟨w.heap.size, 0, none⟩ = some (.pointer (some ⟨a, 0, none⟩)) ∧ w'.cell? ⟨w.heap.size, 1, none⟩ = some (.pointer (some ⟨b, 0, none⟩)) ∧ w'.cell? ⟨w.heap.size + 1, 3, none⟩ = some (.int .i64 n)) (go_keep)
    (first | (go_at_call 13; refine (drop_any a g r S n _ (by first | assumption | (apply SetB.drew; assumption))).mono ?_; rintro e w1 ⟨rfl, s1, f1, -⟩; have c0 := f1.cell (p := ⟨w.heap.size, 0, none⟩) (v := .pointer (some ⟨a, 0, none⟩)) (by first | assumption | simp [*]) (fun (e : w.heap.size = g) => by omega); have c1 := f1.cell (p := ⟨w.heap.size, 1, none⟩) (v := .pointer (some ⟨b, 0, none⟩)) (by first | assumption | simp [*]) (fun (e : w.heap.size = g) => by omega); have c2 := f1.cell (p := ⟨w.heap.size + 1, 3, none⟩) (v := .int .i64 n) (by first | assumption | simp [*]) (fun (e : w.heap.size + 1 = g) => by omega); have r1 := RefB.fr (h := by first | assumption | (apply RefB.drew; assumption)) (f := f1) (fun k h1 h2 (e : k = g) => NG.out ⟨e ▸ h1, e ▸ h2⟩); have q1 := frnext (by first | assumption | (apply Fr.drewr; assumption)) f1 (fun k (e : k = g) => by omega)) | (go_at_call 51; refine (rdrop_any l h' b r S n _ (by first | assumption | (apply RefB.drew; assumption))).mono ?_; rintro e w1 ⟨rfl, r1, f1, -⟩; have c0 := f1.cell (p := ⟨w.heap.size, 0, none⟩) (v := .pointer (some ⟨a, 0, none⟩)) (by first | assumption | simp [*]) (fun (e : l ≤ w.heap.size ∧ w.heap.size < h') => by omega); have c1 := f1.cell (p := ⟨w.heap.size, 1, none⟩) (v := .pointer (some ⟨b, 0, none⟩)) (by first | assumption | simp [*]) (fun (e : l ≤ w.heap.size ∧ w.heap.size < h') => by omega); have c2 := f1.cell (p := ⟨w.heap.size + 1, 3, none⟩) (v := .int .i64 n) (by first | assumption | simp [*]) (fun (e : l ≤ w.heap.size + 1 ∧ w.heap.size + 1 < h') => by omega); have s1 := SetB.fr (h := by first | assumption | (apply SetB.drew; assumption)) (f := f1) NA.out NG.out; have q1 := frnext (by first | assumption | (apply Fr.drewr; assumption)) f1 (fun k hk => by omega)))
  all_goals go_wp2
  all_goals go_ret
  all_goals exact ⟨rfl, _, ⟨s1, r1, hia, hig, hil, NA.out, NG.out, Nat.le_trans htop q1.size⟩, q1⟩

set_option maxRecDepth 100000 in
set_option maxHeartbeats 4000000 in
theorem one_count (p : Pr) (r : Nat) (S : Nat → Bool) (s o n : Int) (w : World) (h : PairB w p r S) :
    Calls Try.prog 31 #[.agg #[.pointer (some ⟨p.a, 0, none⟩), .pointer (some ⟨p.b, 0, none⟩)], .agg #[.int .i64 4, .int .i64 s, .int .i64 o, .int .i64 n]] w (OneEnds p r w) := by
  obtain ⟨a, g, b, l, h', lo, hi⟩ := p
  have H := Mm.hid h
  have hs := h.set
  have hr := h.ref
  have htop := h.top
  have hia := h.ia
  have hig := h.ig
  have hil := h.il
  have hlb := h.ref.lb
  dsimp only at hs hr htop hia hig hil hlb
  have bl := ((Below.refl w.heap.size w).alloc (Nat.le_refl _) (.cells #[.pointer (some ⟨a, 0, none⟩), .pointer (some ⟨b, 0, none⟩)] 52)).alloc (by simp) (.cells #[.int .i64 4, .int .i64 s, .int .i64 o, .int .i64 n] 54)
  have s0 := hs.below bl
  have r0 := hr.below bl
  have q0 := (Fr.of_below bl).mono (T := fun k => lo ≤ k ∧ k < hi) (fun _ h => h.elim)
  have NA := Mm.hid h.na
  have NG := Mm.hid h.ng
  dsimp only at NA NG
  have k0 : ((w.alloc (.cells #[.pointer (some ⟨a, 0, none⟩), .pointer (some ⟨b, 0, none⟩)] 52)).alloc (.cells #[.int .i64 4, .int .i64 s, .int .i64 o, .int .i64 n] 54)).cell? ⟨w.heap.size, 0, none⟩ = some (.pointer (some ⟨a, 0, none⟩)) := by simp
  have k1 : ((w.alloc (.cells #[.pointer (some ⟨a, 0, none⟩), .pointer (some ⟨b, 0, none⟩)] 52)).alloc (.cells #[.int .i64 4, .int .i64 s, .int .i64 o, .int .i64 n] 54)).cell? ⟨w.heap.size, 1, none⟩ = some (.pointer (some ⟨b, 0, none⟩)) := by simp
  have k2 : ((w.alloc (.cells #[.pointer (some ⟨a, 0, none⟩), .pointer (some ⟨b, 0, none⟩)] 52)).alloc (.cells #[.int .i64 4, .int .i64 s, .int .i64 o, .int .i64 n] 54)).cell? ⟨w.heap.size + 1, 3, none⟩ = some (.int .i64 n) := by simp
  clear h hs hr bl
  dsimp only
  go_enter Try.func31, Try.ntmps31
  go_wp2_with fail
  clear k2
  go_region_held3 (fun w' => w'.cell? ⟨w.heap.size, 0, none⟩ = some (.pointer (some ⟨a, 0, none⟩)) ∧ w'.cell? ⟨w.heap.size, 1, none⟩ = some (.pointer (some ⟨b, 0, none⟩))) (go_keep)
    (first | (go_at_call 15; refine (count_b a g r S _ (by first | assumption | (apply SetB.drew; assumption))).mono ?_; rintro e w1 ⟨rfl, f1⟩; have c0 := (Fr.of_below f1).cell (p := ⟨w.heap.size, 0, none⟩) (v := .pointer (some ⟨a, 0, none⟩)) (by first | assumption | simp [*]) (fun h => h); have c1 := (Fr.of_below f1).cell (p := ⟨w.heap.size, 1, none⟩) (v := .pointer (some ⟨b, 0, none⟩)) (by first | assumption | simp [*]) (fun h => h); have s1 := SetB.below (h := by first | assumption | (apply SetB.drew; assumption)) (f := f1); have r1 := RefB.below (h := by first | assumption | (apply RefB.drew; assumption)) (f := f1); have q1 := frnext (by first | assumption | (apply Fr.drewr; assumption)) (Fr.of_below f1) (fun k h => h.elim)) | (go_at_call 53; refine (rcount_any l h' b r S _ (by first | assumption | (apply RefB.drew; assumption))).mono ?_; rintro e w1 ⟨rfl, f1⟩; have c0 := (Fr.of_below f1).cell (p := ⟨w.heap.size, 0, none⟩) (v := .pointer (some ⟨a, 0, none⟩)) (by first | assumption | simp [*]) (fun h => h); have c1 := (Fr.of_below f1).cell (p := ⟨w.heap.size, 1, none⟩) (v := .pointer (some ⟨b, 0, none⟩)) (by first | assumption | simp [*]) (fun h => h); have s1 := SetB.below (h := by first | assumption | (apply SetB.drew; assumption)) (f := f1); have r1 := RefB.below (h := by first | assumption | (apply RefB.drew; assumption)) (f := f1); have q1 := frnext (by first | assumption | (apply Fr.drewr; assumption)) (Fr.of_below f1) (fun k h => h.elim)))
  all_goals go_wp2
  all_goals go_ret
  all_goals exact ⟨rfl, _, ⟨s1, r1, hia, hig, hil, NA.out, NG.out, Nat.le_trans htop q1.size⟩, q1⟩

set_option maxRecDepth 100000 in
set_option maxHeartbeats 4000000 in
theorem one_has (p : Pr) (r : Nat) (S : Nat → Bool) (s o n : Int) (w : World) (h : PairB w p r S) :
    Calls Try.prog 31 #[.agg #[.pointer (some ⟨p.a, 0, none⟩), .pointer (some ⟨p.b, 0, none⟩)], .agg #[.int .i64 3, .int .i64 s, .int .i64 o, .int .i64 n]] w (OneEnds p r w) := by
  obtain ⟨a, g, b, l, h', lo, hi⟩ := p
  have H := Mm.hid h
  have hs := h.set
  have hr := h.ref
  have htop := h.top
  have hia := h.ia
  have hig := h.ig
  have hil := h.il
  have hlb := h.ref.lb
  dsimp only at hs hr htop hia hig hil hlb
  have bl := ((Below.refl w.heap.size w).alloc (Nat.le_refl _) (.cells #[.pointer (some ⟨a, 0, none⟩), .pointer (some ⟨b, 0, none⟩)] 52)).alloc (by simp) (.cells #[.int .i64 3, .int .i64 s, .int .i64 o, .int .i64 n] 54)
  have s0 := hs.below bl
  have r0 := hr.below bl
  have q0 := (Fr.of_below bl).mono (T := fun k => lo ≤ k ∧ k < hi) (fun _ h => h.elim)
  have NA := Mm.hid h.na
  have NG := Mm.hid h.ng
  dsimp only at NA NG
  have k0 : ((w.alloc (.cells #[.pointer (some ⟨a, 0, none⟩), .pointer (some ⟨b, 0, none⟩)] 52)).alloc (.cells #[.int .i64 3, .int .i64 s, .int .i64 o, .int .i64 n] 54)).cell? ⟨w.heap.size, 0, none⟩ = some (.pointer (some ⟨a, 0, none⟩)) := by simp
  have k1 : ((w.alloc (.cells #[.pointer (some ⟨a, 0, none⟩), .pointer (some ⟨b, 0, none⟩)] 52)).alloc (.cells #[.int .i64 3, .int .i64 s, .int .i64 o, .int .i64 n] 54)).cell? ⟨w.heap.size, 1, none⟩ = some (.pointer (some ⟨b, 0, none⟩)) := by simp
  have k2 : ((w.alloc (.cells #[.pointer (some ⟨a, 0, none⟩), .pointer (some ⟨b, 0, none⟩)] 52)).alloc (.cells #[.int .i64 3, .int .i64 s, .int .i64 o, .int .i64 n] 54)).cell? ⟨w.heap.size + 1, 3, none⟩ = some (.int .i64 n) := by simp
  clear h hs hr bl
  dsimp only
  go_enter Try.func31, Try.ntmps31
  go_wp2_with fail
  go_region_held3 (fun w' => w'.cell? ⟨w.heap.size, 0, none⟩ = some (.pointer (some ⟨a, 0, none⟩)) ∧ w'.cell? ⟨w.heap.size, 1, none⟩ = some (.pointer (some ⟨b, 0, none⟩)) ∧ w'.cell? ⟨w.heap.size + 1, 3, none⟩ = some (.int .i64 n)) (go_keep)
    (first | (go_at_call 12; refine (has_b a g r S n _ (by first | assumption | (apply SetB.drew; assumption))).mono ?_; rintro e w1 ⟨rfl, f1⟩; have c0 := (Fr.of_below f1).cell (p := ⟨w.heap.size, 0, none⟩) (v := .pointer (some ⟨a, 0, none⟩)) (by first | assumption | simp [*]) (fun h => h); have c1 := (Fr.of_below f1).cell (p := ⟨w.heap.size, 1, none⟩) (v := .pointer (some ⟨b, 0, none⟩)) (by first | assumption | simp [*]) (fun h => h); have c2 := (Fr.of_below f1).cell (p := ⟨w.heap.size + 1, 3, none⟩) (v := .int .i64 n) (by first | assumption | simp [*]) (fun h => h); have s1 := SetB.below (h := by first | assumption | (apply SetB.drew; assumption)) (f := f1); have r1 := RefB.below (h := by first | assumption | (apply RefB.drew; assumption)) (f := f1); have q1 := frnext (by first | assumption | (apply Fr.drewr; assumption)) (Fr.of_below f1) (fun k h => h.elim)) | (go_at_call 52; refine (rhas_b l h' b r S n _ (by first | assumption | (apply RefB.drew; assumption))).mono ?_; rintro e w1 ⟨rfl, f1⟩; have c0 := (Fr.of_below f1).cell (p := ⟨w.heap.size, 0, none⟩) (v := .pointer (some ⟨a, 0, none⟩)) (by first | assumption | simp [*]) (fun h => h); have c1 := (Fr.of_below f1).cell (p := ⟨w.heap.size, 1, none⟩) (v := .pointer (some ⟨b, 0, none⟩)) (by first | assumption | simp [*]) (fun h => h); have c2 := (Fr.of_below f1).cell (p := ⟨w.heap.size + 1, 3, none⟩) (v := .int .i64 n) (by first | assumption | simp [*]) (fun h => h); have s1 := SetB.below (h := by first | assumption | (apply SetB.drew; assumption)) (f := f1); have r1 := RefB.below (h := by first | assumption | (apply RefB.drew; assumption)) (f := f1); have q1 := frnext (by first | assumption | (apply Fr.drewr; assumption)) (Fr.of_below f1) (fun k h => h.elim)))
  all_goals go_wp2
  all_goals go_ret
  all_goals exact ⟨rfl, _, ⟨s1, r1, hia, hig, hil, NA.out, NG.out, Nat.le_trans htop q1.size⟩, q1⟩

set_option maxRecDepth 100000 in
set_option maxHeartbeats 4000000 in
theorem one_room (p : Pr) (r : Nat) (S : Nat → Bool) (s o n : Int) (w : World) (h : PairB w p r S) :
    Calls Try.prog 31 #[.agg #[.pointer (some ⟨p.a, 0, none⟩), .pointer (some ⟨p.b, 0, none⟩)], .agg #[.int .i64 9, .int .i64 s, .int .i64 o, .int .i64 n]] w (OneEnds p r w) := by
  obtain ⟨a, g, b, l, h', lo, hi⟩ := p
  have H := Mm.hid h
  have hs := h.set
  have hr := h.ref
  have htop := h.top
  have hia := h.ia
  have hig := h.ig
  have hil := h.il
  have hlb := h.ref.lb
  dsimp only at hs hr htop hia hig hil hlb
  have bl := ((Below.refl w.heap.size w).alloc (Nat.le_refl _) (.cells #[.pointer (some ⟨a, 0, none⟩), .pointer (some ⟨b, 0, none⟩)] 52)).alloc (by simp) (.cells #[.int .i64 9, .int .i64 s, .int .i64 o, .int .i64 n] 54)
  have s0 := hs.below bl
  have r0 := hr.below bl
  have q0 := (Fr.of_below bl).mono (T := fun k => lo ≤ k ∧ k < hi) (fun _ h => h.elim)
  have NA := Mm.hid h.na
  have NG := Mm.hid h.ng
  dsimp only at NA NG
  have k0 : ((w.alloc (.cells #[.pointer (some ⟨a, 0, none⟩), .pointer (some ⟨b, 0, none⟩)] 52)).alloc (.cells #[.int .i64 9, .int .i64 s, .int .i64 o, .int .i64 n] 54)).cell? ⟨w.heap.size, 0, none⟩ = some (.pointer (some ⟨a, 0, none⟩)) := by simp
  have k1 : ((w.alloc (.cells #[.pointer (some ⟨a, 0, none⟩), .pointer (some ⟨b, 0, none⟩)] 52)).alloc (.cells #[.int .i64 9, .int .i64 s, .int .i64 o, .int .i64 n] 54)).cell? ⟨w.heap.size, 1, none⟩ = some (.pointer (some ⟨b, 0, none⟩)) := by simp
  have k2 : ((w.alloc (.cells #[.pointer (some ⟨a, 0, none⟩), .pointer (some ⟨b, 0, none⟩)] 52)).alloc (.cells #[.int .i64 9, .int .i64 s, .int .i64 o, .int .i64 n] 54)).cell? ⟨w.heap.size + 1, 3, none⟩ = some (.int .i64 n) := by simp
  clear h hs hr bl
  dsimp only
  go_enter Try.func31, Try.ntmps31
  go_wp2_with fail
  clear k2
  go_region_held3 (fun w' => w'.cell? ⟨w.heap.size, 0, none⟩ = some (.pointer (some ⟨a, 0, none⟩)) ∧ w'.cell? ⟨w.heap.size, 1, none⟩ = some (.pointer (some ⟨b, 0, none⟩))) (go_keep)
    (first | (go_at_call 10; refine (room_b a g r S _ (by first | assumption | (apply SetB.drew; assumption))).mono ?_; rintro e w1 ⟨rfl, f1⟩; have c0 := (Fr.of_below f1).cell (p := ⟨w.heap.size, 0, none⟩) (v := .pointer (some ⟨a, 0, none⟩)) (by first | assumption | simp [*]) (fun h => h); have c1 := (Fr.of_below f1).cell (p := ⟨w.heap.size, 1, none⟩) (v := .pointer (some ⟨b, 0, none⟩)) (by first | assumption | simp [*]) (fun h => h); have s1 := SetB.below (h := by first | assumption | (apply SetB.drew; assumption)) (f := f1); have r1 := RefB.below (h := by first | assumption | (apply RefB.drew; assumption)) (f := f1); have q1 := frnext (by first | assumption | (apply Fr.drewr; assumption)) (Fr.of_below f1) (fun k h => h.elim)) | (go_at_call 54; refine (rroom_b l h' b r S _ (by first | assumption | (apply RefB.drew; assumption))).mono ?_; rintro e w1 ⟨rfl, f1⟩; have c0 := (Fr.of_below f1).cell (p := ⟨w.heap.size, 0, none⟩) (v := .pointer (some ⟨a, 0, none⟩)) (by first | assumption | simp [*]) (fun h => h); have c1 := (Fr.of_below f1).cell (p := ⟨w.heap.size, 1, none⟩) (v := .pointer (some ⟨b, 0, none⟩)) (by first | assumption | simp [*]) (fun h => h); have s1 := SetB.below (h := by first | assumption | (apply SetB.drew; assumption)) (f := f1); have r1 := RefB.below (h := by first | assumption | (apply RefB.drew; assumption)) (f := f1); have q1 := frnext (by first | assumption | (apply Fr.drewr; assumption)) (Fr.of_below f1) (fun k h => h.elim)))
  all_goals go_wp2
  all_goals go_ret
  all_goals exact ⟨rfl, _, ⟨s1, r1, hia, hig, hil, NA.out, NG.out, Nat.le_trans htop q1.size⟩, q1⟩

set_option maxRecDepth 100000 in
set_option maxHeartbeats 4000000 in
theorem two_join (p : Pr) (r : Nat) (S T : Nat → Bool) (qa qb : Option Addr) (s o n : Int) (w : World) (h : PairB w p r S) (ho : Oth w p S qa qb T) :
    Calls Try.prog 32 #[.agg #[.pointer (some ⟨p.a, 0, none⟩), .pointer (some ⟨p.b, 0, none⟩)], .agg #[.pointer qa, .pointer qb], .agg #[.int .i64 5, .int .i64 s, .int .i64 o, .int .i64 n]] w (OneEnds p r w) := by
  obtain ⟨a, g, b, l, h', lo, hi⟩ := p
  have H := Mm.hid h
  have hs := h.set
  have hr := h.ref
  have htop := h.top
  have hia := h.ia
  have hig := h.ig
  have hil := h.il
  have hlb := h.ref.lb
  dsimp only at hs hr htop hia hig hil hlb
  have bl := (((Below.refl w.heap.size w).alloc (Nat.le_refl _) (.cells #[.pointer (some ⟨a, 0, none⟩), .pointer (some ⟨b, 0, none⟩)] 52)).alloc (by simp) (.cells #[.pointer qa, .pointer qb] 52)).alloc (by simp; omega) (.cells #[.int .i64 5, .int .i64 s, .int .i64 o, .int .i64 n] 54)
  have s0 := hs.below bl
  have r0 := hr.below bl
  have q0 := (Fr.of_below bl).mono (T := fun k => lo ≤ k ∧ k < hi) (fun _ h => h.elim)
  have o0 := ho.fr ((Fr.of_below bl).mono (T := fun k => lo ≤ k ∧ k < hi) (fun _ h => h.elim)) (fun _ h => h)
  have NA := Mm.hid h.na
  have NG := Mm.hid h.ng
  dsimp only at NA NG
  have k0 : (((w.alloc (.cells #[.pointer (some ⟨a, 0, none⟩), .pointer (some ⟨b, 0, none⟩)] 52)).alloc (.cells #[.pointer qa, .pointer qb] 52)).alloc (.cells #[.int .i64 5, .int .i64 s, .int .i64 o, .int .i64 n] 54)).cell? ⟨w.heap.size, 0, none⟩ = some (.pointer (some ⟨a, 0, none⟩)) := (box3 w _ _ _ _ _ _ 0).1
  have k1 : (((w.alloc (.cells #[.pointer (some ⟨a, 0, none⟩), .pointer (some ⟨b, 0, none⟩)] 52)).alloc (.cells #[.pointer qa, .pointer qb] 52)).alloc (.cells #[.int .i64 5, .int .i64 s, .int .i64 o, .int .i64 n] 54)).cell? ⟨w.heap.size, 1, none⟩ = some (.pointer (some ⟨b, 0, none⟩)) := (box3 w _ _ _ _ _ _ 1).1
  have k2 : (((w.alloc (.cells #[.pointer (some ⟨a, 0, none⟩), .pointer (some ⟨b, 0, none⟩)] 52)).alloc (.cells #[.pointer qa, .pointer qb] 52)).alloc (.cells #[.int .i64 5, .int .i64 s, .int .i64 o, .int .i64 n] 54)).cell? ⟨w.heap.size + 1, 0, none⟩ = some (.pointer qa) := (box3 w _ _ _ _ _ _ 0).2
  have k3 : (((w.alloc (.cells #[.pointer (some ⟨a, 0, none⟩), .pointer (some ⟨b, 0, none⟩)] 52)).alloc (.cells #[.pointer qa, .pointer qb] 52)).alloc (.cells #[.int .i64 5, .int .i64 s, .int .i64 o, .int .i64 n] 54)).cell? ⟨w.heap.size + 1, 1, none⟩ = some (.pointer qb) := (box3 w _ _ _ _ _ _ 1).2
  clear h hs hr bl ho
  dsimp only
  go_enter Try.func32, Try.ntmps32
  go_wp2_with fail
  go_region_held3 (fun w' => w'.cell? ⟨w.heap.size, 0, none⟩ = some (.pointer (some ⟨a, 0, none⟩)) ∧ w'.cell? ⟨w.heap.size, 1, none⟩ = some (.pointer (some ⟨b, 0, none⟩)) ∧ w'.cell? ⟨w.heap.size + 1, 0, none⟩ = some (.pointer qa) ∧ w'.cell? ⟨w.heap.size + 1, 1, none⟩ = some (.pointer qb)) (go_keep)
    (first | (go_at_call 17; refine (join_any a g r S T qa _ (by first | assumption | (apply SetB.drew; assumption)) (Oth.set (by first | assumption | (apply Oth.drew; assumption)) hig)).mono ?_; rintro e w1 ⟨rfl, s1, f1⟩; have c0 := f1.cell (p := ⟨w.heap.size, 0, none⟩) (v := .pointer (some ⟨a, 0, none⟩)) (by first | assumption | simp [*]) (fun (e : w.heap.size = g) => by omega); have c1 := f1.cell (p := ⟨w.heap.size, 1, none⟩) (v := .pointer (some ⟨b, 0, none⟩)) (by first | assumption | simp [*]) (fun (e : w.heap.size = g) => by omega); have c2 := f1.cell (p := ⟨w.heap.size + 1, 0, none⟩) (v := .pointer qa) (by first | assumption | simp [*]) (fun (e : w.heap.size + 1 = g) => by omega); have c3 := f1.cell (p := ⟨w.heap.size + 1, 1, none⟩) (v := .pointer qb) (by first | assumption | simp [*]) (fun (e : w.heap.size + 1 = g) => by omega); have r1 := RefB.fr (h := by first | assumption | (apply RefB.drew; assumption)) (f := f1) (fun k h1 h2 (e : k = g) => NG.out ⟨e ▸ h1, e ▸ h2⟩); have q1 := frnext (by first | assumption | (apply Fr.drewr; assumption)) f1 (fun k (e : k = g) => by omega); have o1 := Oth.fr (by first | assumption | (apply Oth.drew; assumption)) f1 (fun k (e : k = g) => by constructor <;> (dsimp only; omega))) | (go_at_call 56; refine (rjoin_o l h' b r S T qb _ (by first | assumption | (apply RefB.drew; assumption)) (Oth.ref (by first | assumption | (apply Oth.drew; assumption)) (by first | assumption | (apply RefB.drew; assumption)))).mono ?_; rintro e w1 ⟨rfl, r1, f1⟩; have c0 := f1.cell (p := ⟨w.heap.size, 0, none⟩) (v := .pointer (some ⟨a, 0, none⟩)) (by first | assumption | simp [*]) (fun (e : l ≤ w.heap.size ∧ w.heap.size < h') => by omega); have c1 := f1.cell (p := ⟨w.heap.size, 1, none⟩) (v := .pointer (some ⟨b, 0, none⟩)) (by first | assumption | simp [*]) (fun (e : l ≤ w.heap.size ∧ w.heap.size < h') => by omega); have c2 := f1.cell (p := ⟨w.heap.size + 1, 0, none⟩) (v := .pointer qa) (by first | assumption | simp [*]) (fun (e : l ≤ w.heap.size + 1 ∧ w.heap.size + 1 < h') => by omega); have c3 := f1.cell (p := ⟨w.heap.size + 1, 1, none⟩) (v := .pointer qb) (by first | assumption | simp [*]) (fun (e : l ≤ w.heap.size + 1 ∧ w.heap.size + 1 < h') => by omega); have s1 := SetB.fr (h := by first | assumption | (apply SetB.drew; assumption)) (f := f1) NA.out NG.out; have q1 := frnext (by first | assumption | (apply Fr.drewr; assumption)) f1 (fun k hk => by omega); have o1 := Oth.fr (by first | assumption | (apply Oth.drew; assumption)) f1 (fun k hk => by constructor <;> (dsimp only; omega))))
  all_goals go_wp2
  all_goals go_ret
  all_goals exact ⟨rfl, _, ⟨s1, r1, hia, hig, hil, NA.out, NG.out, Nat.le_trans htop q1.size⟩, q1⟩

set_option maxRecDepth 100000 in
set_option maxHeartbeats 4000000 in
theorem two_meet (p : Pr) (r : Nat) (S T : Nat → Bool) (qa qb : Option Addr) (s o n : Int) (w : World) (h : PairB w p r S) (ho : Oth w p S qa qb T) :
    Calls Try.prog 32 #[.agg #[.pointer (some ⟨p.a, 0, none⟩), .pointer (some ⟨p.b, 0, none⟩)], .agg #[.pointer qa, .pointer qb], .agg #[.int .i64 6, .int .i64 s, .int .i64 o, .int .i64 n]] w (OneEnds p r w) := by
  obtain ⟨a, g, b, l, h', lo, hi⟩ := p
  have H := Mm.hid h
  have hs := h.set
  have hr := h.ref
  have htop := h.top
  have hia := h.ia
  have hig := h.ig
  have hil := h.il
  have hlb := h.ref.lb
  dsimp only at hs hr htop hia hig hil hlb
  have bl := (((Below.refl w.heap.size w).alloc (Nat.le_refl _) (.cells #[.pointer (some ⟨a, 0, none⟩), .pointer (some ⟨b, 0, none⟩)] 52)).alloc (by simp) (.cells #[.pointer qa, .pointer qb] 52)).alloc (by simp; omega) (.cells #[.int .i64 6, .int .i64 s, .int .i64 o, .int .i64 n] 54)
  have s0 := hs.below bl
  have r0 := hr.below bl
  have q0 := (Fr.of_below bl).mono (T := fun k => lo ≤ k ∧ k < hi) (fun _ h => h.elim)
  have o0 := ho.fr ((Fr.of_below bl).mono (T := fun k => lo ≤ k ∧ k < hi) (fun _ h => h.elim)) (fun _ h => h)
  have NA := Mm.hid h.na
  have NG := Mm.hid h.ng
  dsimp only at NA NG
  have k0 : (((w.alloc (.cells #[.pointer (some ⟨a, 0, none⟩), .pointer (some ⟨b, 0, none⟩)] 52)).alloc (.cells #[.pointer qa, .pointer qb] 52)).alloc (.cells #[.int .i64 6, .int .i64 s, .int .i64 o, .int .i64 n] 54)).cell? ⟨w.heap.size, 0, none⟩ = some (.pointer (some ⟨a, 0, none⟩)) := (box3 w _ _ _ _ _ _ 0).1
  have k1 : (((w.alloc (.cells #[.pointer (some ⟨a, 0, none⟩), .pointer (some ⟨b, 0, none⟩)] 52)).alloc (.cells #[.pointer qa, .pointer qb] 52)).alloc (.cells #[.int .i64 6, .int .i64 s, .int .i64 o, .int .i64 n] 54)).cell? ⟨w.heap.size, 1, none⟩ = some (.pointer (some ⟨b, 0, none⟩)) := (box3 w _ _ _ _ _ _ 1).1
  have k2 : (((w.alloc (.cells #[.pointer (some ⟨a, 0, none⟩), .pointer (some ⟨b, 0, none⟩)] 52)).alloc (.cells #[.pointer qa, .pointer qb] 52)).alloc (.cells #[.int .i64 6, .int .i64 s, .int .i64 o, .int .i64 n] 54)).cell? ⟨w.heap.size + 1, 0, none⟩ = some (.pointer qa) := (box3 w _ _ _ _ _ _ 0).2
  have k3 : (((w.alloc (.cells #[.pointer (some ⟨a, 0, none⟩), .pointer (some ⟨b, 0, none⟩)] 52)).alloc (.cells #[.pointer qa, .pointer qb] 52)).alloc (.cells #[.int .i64 6, .int .i64 s, .int .i64 o, .int .i64 n] 54)).cell? ⟨w.heap.size + 1, 1, none⟩ = some (.pointer qb) := (box3 w _ _ _ _ _ _ 1).2
  clear h hs hr bl ho
  dsimp only
  go_enter Try.func32, Try.ntmps32
  go_wp2_with fail
  go_region_held3 (fun w' => w'.cell? ⟨w.heap.size, 0, none⟩ = some (.pointer (some ⟨a, 0, none⟩)) ∧ w'.cell? ⟨w.heap.size, 1, none⟩ = some (.pointer (some ⟨b, 0, none⟩)) ∧ w'.cell? ⟨w.heap.size + 1, 0, none⟩ = some (.pointer qa) ∧ w'.cell? ⟨w.heap.size + 1, 1, none⟩ = some (.pointer qb)) (go_keep)
    (first | (go_at_call 18; refine (meet_any a g r S T qa _ (by first | assumption | (apply SetB.drew; assumption)) (Oth.set (by first | assumption | (apply Oth.drew; assumption)) hig)).mono ?_; rintro e w1 ⟨rfl, s1, f1⟩; have c0 := f1.cell (p := ⟨w.heap.size, 0, none⟩) (v := .pointer (some ⟨a, 0, none⟩)) (by first | assumption | simp [*]) (fun (e : w.heap.size = g) => by omega); have c1 := f1.cell (p := ⟨w.heap.size, 1, none⟩) (v := .pointer (some ⟨b, 0, none⟩)) (by first | assumption | simp [*]) (fun (e : w.heap.size = g) => by omega); have c2 := f1.cell (p := ⟨w.heap.size + 1, 0, none⟩) (v := .pointer qa) (by first | assumption | simp [*]) (fun (e : w.heap.size + 1 = g) => by omega); have c3 := f1.cell (p := ⟨w.heap.size + 1, 1, none⟩) (v := .pointer qb) (by first | assumption | simp [*]) (fun (e : w.heap.size + 1 = g) => by omega); have r1 := RefB.fr (h := by first | assumption | (apply RefB.drew; assumption)) (f := f1) (fun k h1 h2 (e : k = g) => NG.out ⟨e ▸ h1, e ▸ h2⟩); have q1 := frnext (by first | assumption | (apply Fr.drewr; assumption)) f1 (fun k (e : k = g) => by omega); have o1 := Oth.fr (by first | assumption | (apply Oth.drew; assumption)) f1 (fun k (e : k = g) => by constructor <;> (dsimp only; omega))) | (go_at_call 57; refine (rmeet_any l h' b r S T qb _ (by first | assumption | (apply RefB.drew; assumption)) (Oth.has (by first | assumption | (apply Oth.drew; assumption)) hil)).mono ?_; rintro e w1 ⟨rfl, r1, f1⟩; have c0 := f1.cell (p := ⟨w.heap.size, 0, none⟩) (v := .pointer (some ⟨a, 0, none⟩)) (by first | assumption | simp [*]) (fun (e : l ≤ w.heap.size ∧ w.heap.size < h') => by omega); have c1 := f1.cell (p := ⟨w.heap.size, 1, none⟩) (v := .pointer (some ⟨b, 0, none⟩)) (by first | assumption | simp [*]) (fun (e : l ≤ w.heap.size ∧ w.heap.size < h') => by omega); have c2 := f1.cell (p := ⟨w.heap.size + 1, 0, none⟩) (v := .pointer qa) (by first | assumption | simp [*]) (fun (e : l ≤ w.heap.size + 1 ∧ w.heap.size + 1 < h') => by omega); have c3 := f1.cell (p := ⟨w.heap.size + 1, 1, none⟩) (v := .pointer qb) (by first | assumption | simp [*]) (fun (e : l ≤ w.heap.size + 1 ∧ w.heap.size + 1 < h') => by omega); have s1 := SetB.fr (h := by first | assumption | (apply SetB.drew; assumption)) (f := f1) NA.out NG.out; have q1 := frnext (by first | assumption | (apply Fr.drewr; assumption)) f1 (fun k hk => by omega); have o1 := Oth.fr (by first | assumption | (apply Oth.drew; assumption)) f1 (fun k hk => by constructor <;> (dsimp only; omega))))
  all_goals go_wp2
  all_goals go_ret
  all_goals exact ⟨rfl, _, ⟨s1, r1, hia, hig, hil, NA.out, NG.out, Nat.le_trans htop q1.size⟩, q1⟩

set_option maxRecDepth 100000 in
set_option maxHeartbeats 4000000 in
theorem two_less (p : Pr) (r : Nat) (S T : Nat → Bool) (qa qb : Option Addr) (s o n : Int) (w : World) (h : PairB w p r S) (ho : Oth w p S qa qb T) :
    Calls Try.prog 32 #[.agg #[.pointer (some ⟨p.a, 0, none⟩), .pointer (some ⟨p.b, 0, none⟩)], .agg #[.pointer qa, .pointer qb], .agg #[.int .i64 7, .int .i64 s, .int .i64 o, .int .i64 n]] w (OneEnds p r w) := by
  obtain ⟨a, g, b, l, h', lo, hi⟩ := p
  have H := Mm.hid h
  have hs := h.set
  have hr := h.ref
  have htop := h.top
  have hia := h.ia
  have hig := h.ig
  have hil := h.il
  have hlb := h.ref.lb
  dsimp only at hs hr htop hia hig hil hlb
  have bl := (((Below.refl w.heap.size w).alloc (Nat.le_refl _) (.cells #[.pointer (some ⟨a, 0, none⟩), .pointer (some ⟨b, 0, none⟩)] 52)).alloc (by simp) (.cells #[.pointer qa, .pointer qb] 52)).alloc (by simp; omega) (.cells #[.int .i64 7, .int .i64 s, .int .i64 o, .int .i64 n] 54)
  have s0 := hs.below bl
  have r0 := hr.below bl
  have q0 := (Fr.of_below bl).mono (T := fun k => lo ≤ k ∧ k < hi) (fun _ h => h.elim)
  have o0 := ho.fr ((Fr.of_below bl).mono (T := fun k => lo ≤ k ∧ k < hi) (fun _ h => h.elim)) (fun _ h => h)
  have NA := Mm.hid h.na
  have NG := Mm.hid h.ng
  dsimp only at NA NG
  have k0 : (((w.alloc (.cells #[.pointer (some ⟨a, 0, none⟩), .pointer (some ⟨b, 0, none⟩)] 52)).alloc (.cells #[.pointer qa, .pointer qb] 52)).alloc (.cells #[.int .i64 7, .int .i64 s, .int .i64 o, .int .i64 n] 54)).cell? ⟨w.heap.size, 0, none⟩ = some (.pointer (some ⟨a, 0, none⟩)) := (box3 w _ _ _ _ _ _ 0).1
  have k1 : (((w.alloc (.cells #[.pointer (some ⟨a, 0, none⟩), .pointer (some ⟨b, 0, none⟩)] 52)).alloc (.cells #[.pointer qa, .pointer qb] 52)).alloc (.cells #[.int .i64 7, .int .i64 s, .int .i64 o, .int .i64 n] 54)).cell? ⟨w.heap.size, 1, none⟩ = some (.pointer (some ⟨b, 0, none⟩)) := (box3 w _ _ _ _ _ _ 1).1
  have k2 : (((w.alloc (.cells #[.pointer (some ⟨a, 0, none⟩), .pointer (some ⟨b, 0, none⟩)] 52)).alloc (.cells #[.pointer qa, .pointer qb] 52)).alloc (.cells #[.int .i64 7, .int .i64 s, .int .i64 o, .int .i64 n] 54)).cell? ⟨w.heap.size + 1, 0, none⟩ = some (.pointer qa) := (box3 w _ _ _ _ _ _ 0).2
  have k3 : (((w.alloc (.cells #[.pointer (some ⟨a, 0, none⟩), .pointer (some ⟨b, 0, none⟩)] 52)).alloc (.cells #[.pointer qa, .pointer qb] 52)).alloc (.cells #[.int .i64 7, .int .i64 s, .int .i64 o, .int .i64 n] 54)).cell? ⟨w.heap.size + 1, 1, none⟩ = some (.pointer qb) := (box3 w _ _ _ _ _ _ 1).2
  clear h hs hr bl ho
  dsimp only
  go_enter Try.func32, Try.ntmps32
  go_wp2_with fail
  go_region_held3 (fun w' => w'.cell? ⟨w.heap.size, 0, none⟩ = some (.pointer (some ⟨a, 0, none⟩)) ∧ w'.cell? ⟨w.heap.size, 1, none⟩ = some (.pointer (some ⟨b, 0, none⟩)) ∧ w'.cell? ⟨w.heap.size + 1, 0, none⟩ = some (.pointer qa) ∧ w'.cell? ⟨w.heap.size + 1, 1, none⟩ = some (.pointer qb)) (go_keep)
    (first | (go_at_call 19; refine (less_any a g r S T qa _ (by first | assumption | (apply SetB.drew; assumption)) (Oth.set (by first | assumption | (apply Oth.drew; assumption)) hig)).mono ?_; rintro e w1 ⟨rfl, s1, f1⟩; have c0 := f1.cell (p := ⟨w.heap.size, 0, none⟩) (v := .pointer (some ⟨a, 0, none⟩)) (by first | assumption | simp [*]) (fun (e : w.heap.size = g) => by omega); have c1 := f1.cell (p := ⟨w.heap.size, 1, none⟩) (v := .pointer (some ⟨b, 0, none⟩)) (by first | assumption | simp [*]) (fun (e : w.heap.size = g) => by omega); have c2 := f1.cell (p := ⟨w.heap.size + 1, 0, none⟩) (v := .pointer qa) (by first | assumption | simp [*]) (fun (e : w.heap.size + 1 = g) => by omega); have c3 := f1.cell (p := ⟨w.heap.size + 1, 1, none⟩) (v := .pointer qb) (by first | assumption | simp [*]) (fun (e : w.heap.size + 1 = g) => by omega); have r1 := RefB.fr (h := by first | assumption | (apply RefB.drew; assumption)) (f := f1) (fun k h1 h2 (e : k = g) => NG.out ⟨e ▸ h1, e ▸ h2⟩); have q1 := frnext (by first | assumption | (apply Fr.drewr; assumption)) f1 (fun k (e : k = g) => by omega); have o1 := Oth.fr (by first | assumption | (apply Oth.drew; assumption)) f1 (fun k (e : k = g) => by constructor <;> (dsimp only; omega))) | (go_at_call 58; refine (rless_o l h' b r S T qb _ (by first | assumption | (apply RefB.drew; assumption)) (Oth.ref (by first | assumption | (apply Oth.drew; assumption)) (by first | assumption | (apply RefB.drew; assumption)))).mono ?_; rintro e w1 ⟨rfl, r1, f1⟩; have c0 := f1.cell (p := ⟨w.heap.size, 0, none⟩) (v := .pointer (some ⟨a, 0, none⟩)) (by first | assumption | simp [*]) (fun (e : l ≤ w.heap.size ∧ w.heap.size < h') => by omega); have c1 := f1.cell (p := ⟨w.heap.size, 1, none⟩) (v := .pointer (some ⟨b, 0, none⟩)) (by first | assumption | simp [*]) (fun (e : l ≤ w.heap.size ∧ w.heap.size < h') => by omega); have c2 := f1.cell (p := ⟨w.heap.size + 1, 0, none⟩) (v := .pointer qa) (by first | assumption | simp [*]) (fun (e : l ≤ w.heap.size + 1 ∧ w.heap.size + 1 < h') => by omega); have c3 := f1.cell (p := ⟨w.heap.size + 1, 1, none⟩) (v := .pointer qb) (by first | assumption | simp [*]) (fun (e : l ≤ w.heap.size + 1 ∧ w.heap.size + 1 < h') => by omega); have s1 := SetB.fr (h := by first | assumption | (apply SetB.drew; assumption)) (f := f1) NA.out NG.out; have q1 := frnext (by first | assumption | (apply Fr.drewr; assumption)) f1 (fun k hk => by omega); have o1 := Oth.fr (by first | assumption | (apply Oth.drew; assumption)) f1 (fun k hk => by constructor <;> (dsimp only; omega))))
  all_goals go_wp2
  all_goals go_ret
  all_goals exact ⟨rfl, _, ⟨s1, r1, hia, hig, hil, NA.out, NG.out, Nat.le_trans htop q1.size⟩, q1⟩

end Go.Proofs.Ytdfdicmbfgkekaa

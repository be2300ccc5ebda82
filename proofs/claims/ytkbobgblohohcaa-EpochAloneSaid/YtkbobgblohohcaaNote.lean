/- Walks: a note into the trace. -/
import Derived.Test.YtkbobgblohohcaaMem
import Derived.Deep.RegionLaw
namespace Go.Proofs.Ytkbobgblohohcaa
open Go.RowKit Go.Mm Go.Cells
def OpEnds (base : Nat) (F : Nat → Prop) (g : Nat) (S' : Cm) (r : Value) (w : World) (e : Ending) (w' : World) : Prop := e = .returned r ∧ Turns base F w g S' w'
theorem Turns.mem {base g : Nat} {F : Nat → Prop} {w w' : World} {S : Cm} (h : Turns base F w g S w') : ∃ F' : Nat → Prop, MemB base F' w' g S ∧ (∀ k, F' k → F k ∨ w.heap.size ≤ k) ∧ Fr F w w' := h.out
theorem note_fin {base g : Nat} {F : Nat → Prop} {S : Cm} {x : Acc} {w W w1 : World} {vW vT v1 : Value} {n : Nat} (H : MemB base F w g S) (FW : ∀ b, vW.ownBlock = some b → F b) (FT : ∀ b, vT.ownBlock = some b → F b)
    (OW : w.ownsRow base 3 1 vW S.ws.length (iL S.ws)) (LN : S.tr.length = n) (FA : Fr (fun _ => False) w W)
    (K1 : w1.ownsRow base 47 5 v1 (n + 1) (S.tr.flatMap fAcc ++ fAcc x)) (K3 : W.grownBy w1 vT.ownBlock) (K4 : v1.ownBlock = vT.ownBlock ∨ v1.ownBlock = some W.heap.size) (HB1 : Blk w1 g 131 #[vW, vT, .int .i64 (S.bad : Int)]) (NW : vT.ownBlock = none ∨ vW.ownBlock ≠ vT.ownBlock) :
    Turns base F w g (S.note x) (w1.setCell ⟨g, 1, none⟩ v1) := by
  have hf1 : Fr (fun k => vT.ownBlock = some k) w w1 := (FA.mono (T := fun k => vT.ownBlock = some k) fun _ h => h.elim).trans (Fr.grown K3) fun _ _ h => h
  have hf1' : Fr F w w1 := hf1.mono fun k hk => FT k hk
  have hs := Fr.setCell w1 ⟨g, 1, none⟩ v1
  have hsz : (w1.setCell ⟨g, 1, none⟩ v1).heap.size = w1.heap.size := by simp [World.setCell]
  refine ⟨fun k => F k ∨ (w.heap.size ≤ k ∧ k < w1.heap.size), ⟨⟨vW, v1, HB1.set 1 v1, ?_, ?_, fun b hb => .inl (FW b hb), fun b hb => ?_⟩, .inl H.fg, fun k hk => ?_, H.wl⟩, fun k hk => ?_, hf1'.trans hs fun k _ (e : k = g) => e ▸ H.fg⟩
  · refine hs.own (hf1.own OW fun b hb hb' => ?_) fun b hb (e : b = g) => ?_
    · rcases NW with h | h
      · rw [h] at hb'; cases hb'
      · exact h (by rw [hb, hb'])
    · have := hf1.own OW fun b hb hb' => by
        rcases NW with h | h
        · rw [h] at hb'; cases hb'
        · exact h (by rw [hb, hb'])
      exact own_ne this HB1 (by decide) (by rw [hb, e])
  · have : (S.note x).tr.length = n + 1 := by simp [Cm.note, LN]
    rw [this, show (S.note x).tr.flatMap fAcc = S.tr.flatMap fAcc ++ fAcc x from by simp [Cm.note]]
    exact hs.own K1 fun b hb (e : b = g) => own_ne K1 HB1 (by decide) (by rw [hb, e])
  · rcases K4 with h | h
    · exact .inl (FT b (h ▸ hb))
    · right
      have h2 := (own_lt K1 hb).2
      rw [hb] at h
      injection h with h
      have := FA.size
      omega
  · rw [hsz]
    rcases hk with hk | hk
    · have := H.lt k hk
      have := hf1.size
      omega
    · have := H.lt g H.fg
      omega
  · rcases hk with hk | hk
    · exact .inl hk
    · exact .inr hk.1
set_option maxRecDepth 100000 in
set_option maxHeartbeats 4000000 in
theorem note_any (base g : Nat) (F : Nat → Prop) (S : Cm) (k a v o : Int) (good : Bool) (w : World) (h : MemB base F w g S) (hB : base ≤ w.heap.size) (hn : (S.tr.length + 1) * 40 ≤ 140737488355328) :
    Calls Try.prog 72 #[.pointer (some ⟨g, 0, none⟩), .agg #[.int .i8 k, .int .i64 a, .int .i64 v, .int .i64 o, .bool good]] w (OpEnds base F g (S.note ⟨k, a, v, o, good⟩) (.tuple #[]) w) := by
  have H := Mm.hid h
  obtain ⟨vW, vT, h1, h2, h3, h4, h5⟩ := h.out
  obtain ⟨n, hnn⟩ : ∃ n, S.tr.length = n := ⟨_, rfl⟩
  rw [hnn] at h3 hn
  obtain ⟨A, c, rfl, hc, _, _⟩ := own_slice h3
  have OT := Mm.hid h3
  have OW := Mm.hid h2
  have B0 := Mm.hid h1
  have FW := Mm.hid h4
  have FT := Mm.hid h5
  have LN := Mm.hid hnn
  have lg := h1.lt
  have hne := own_ne h3 h1 (by decide)
  have NE := Mm.hid hne
  have NW : Hid ((Value.slice A n c).ownBlock = none ∨ vW.ownBlock ≠ (Value.slice A n c).ownBlock) := by
    rcases hA : (Value.slice A n c).ownBlock with _ | b
    · exact .inl rfl
    · refine .inr fun e => own_own_ne h3 h2 (by decide) hA e
  have c1 : w.cell? ⟨g, 1, none⟩ = some (.slice A n c) := h1.cell 1
  clear h h1 h2 h3 h4 h5 hnn hne
  have X1 := Mm.hid (Blk.new w #[.int .i8 k, .int .i64 a, .int .i64 v, .int .i64 o, .bool good] 47)
  have hone : ∀ u ∈ (#[Value.int .i8 k, .int .i64 a, .int .i64 v, .int .i64 o, .bool good] : Array Value).toList, u.oneCell' = true := by simp; exact ⟨rfl, rfl, rfl, rfl, rfl⟩
  have HO := Mm.hid hone
  clear hone
  have hs1 : (w.alloc (.cells #[.int .i8 k, .int .i64 a, .int .i64 v, .int .i64 o, .bool good] 47)).heap.size = w.heap.size + 1 := by simp
  have BX : Hid (Blk ((w.alloc (.cells #[.int .i8 k, .int .i64 a, .int .i64 v, .int .i64 o, .bool good] 47)).alloc (.cells #[.int .i8 k, .int .i64 a, .int .i64 v, .int .i64 o, .bool good] 47)) (w.heap.size + 1) 47 #[.int .i8 k, .int .i64 a, .int .i64 v, .int .i64 o, .bool good]) := by
    have h := Blk.new (w.alloc (.cells #[.int .i8 k, .int .i64 a, .int .i64 v, .int .i64 o, .bool good] 47)) #[.int .i8 k, .int .i64 a, .int .i64 v, .int .i64 o, .bool good] 47
    rw [hs1] at h
    exact h
  have OT2 : Hid (((w.alloc (.cells #[.int .i8 k, .int .i64 a, .int .i64 v, .int .i64 o, .bool good] 47)).alloc (.cells #[.int .i8 k, .int .i64 a, .int .i64 v, .int .i64 o, .bool good] 47)).drew.ownsRow base 47 5 (.slice A n c) n (S.tr.flatMap fAcc)) := ((OT.out.alloc _).alloc _).drew
  have B2 : Hid (Blk ((w.alloc (.cells #[.int .i8 k, .int .i64 a, .int .i64 v, .int .i64 o, .bool good] 47)).alloc (.cells #[.int .i8 k, .int .i64 a, .int .i64 v, .int .i64 o, .bool good] 47)).drew g 131 #[.slice A n c, .slice A n c, .int .i64 (S.bad : Int)] → True) := fun _ => trivial
  have GK : Hid (((w.alloc (.cells #[.int .i8 k, .int .i64 a, .int .i64 v, .int .i64 o, .bool good] 47)).alloc (.cells #[.int .i8 k, .int .i64 a, .int .i64 v, .int .i64 o, .bool good] 47)).drew.heap[g]? = w.heap[g]?) := (Below.heap_alloc (w.alloc (.cells #[.int .i8 k, .int .i64 a, .int .i64 v, .int .i64 o, .bool good] 47)) (.cells #[.int .i8 k, .int .i64 a, .int .i64 v, .int .i64 o, .bool good] 47) g (by rw [hs1]; omega)).trans (Below.heap_alloc w (.cells #[.int .i8 k, .int .i64 a, .int .i64 v, .int .i64 o, .bool good] 47) g lg)
  have FA : Hid (Fr (fun _ => False) w ((w.alloc (.cells #[.int .i8 k, .int .i64 a, .int .i64 v, .int .i64 o, .bool good] 47)).alloc (.cells #[.int .i8 k, .int .i64 a, .int .i64 v, .int .i64 o, .bool good] 47)).drew) := ((Fr.alloc _ w (.cells #[.int .i8 k, .int .i64 a, .int .i64 v, .int .i64 o, .bool good] 47)).trans (Fr.alloc (fun _ => False) _ (.cells #[.int .i8 k, .int .i64 a, .int .i64 v, .int .i64 o, .bool good] 47)) (fun _ _ h => h)).trans (Fr.drew (fun _ => False) _) (fun _ _ h => h)
  have hsB : base ≤ ((w.alloc (.cells #[.int .i8 k, .int .i64 a, .int .i64 v, .int .i64 o, .bool good] 47)).alloc (.cells #[.int .i8 k, .int .i64 a, .int .i64 v, .int .i64 o, .bool good] 47)).drew.heap.size := Nat.le_trans hB FA.out.size
  have HSB := Mm.hid hsB
  have lg2 : Hid (g < ((w.alloc (.cells #[.int .i8 k, .int .i64 a, .int .i64 v, .int .i64 o, .bool good] 47)).alloc (.cells #[.int .i8 k, .int .i64 a, .int .i64 v, .int .i64 o, .bool good] 47)).drew.heap.size) := Mm.hid (Nat.lt_of_lt_of_le lg FA.out.size)
  clear hs1 B2 hsB
  go_enter Try.func72, Try.ntmps72
  go_wp2_with fail
  go_region_law ((refine step_ape1 base rfl (.tmp 8) (.tmp 10) 41 47 (.agg #[.int .i8 0, .int .i64 0, .int .i64 0, .int .i64 0, .bool false]) 5 40 #[.int .i8 k, .int .i64 a, .int .i64 v, .int .i64 o, .bool good] (w.heap.size + 1) rfl Try.underlying41 info47 rfl (by decide) (by decide) (.slice A n c) n _ rfl rfl (BX.out.keep rfl) rfl HO.out OT2.out HSB.out hn ?_; intro v1 w1 k1 k3 k4; have hb1 : Blk w1 g 131 #[vW, .slice A n c, .int .i64 (S.bad : Int)] := (B0.out.keep GK.out).keep (k3.block g lg2.out (fun e => NE.out e.symm)); have d1 : w1.cell? ⟨g, 1, none⟩ = some (.slice A n c) := hb1.cell 1; have d2 : w1.frozen? ⟨g, 1, none⟩ = false := hb1.free 1; have K1 := Mm.hid k1; have K3 := Mm.hid k3; have K4 := Mm.hid k4; have HB1 := Mm.hid hb1; clear k1 k3 k4 hb1; obtain ⟨A1, c1', hv, _⟩ := own_slice K1.out; subst hv))
  all_goals go_end0
  all_goals exact ⟨rfl, note_fin H.out FW.out FT.out OW.out LN.out FA.out K1.out K3.out K4.out HB1.out NW.out⟩
end Go.Proofs.Ytkbobgblohohcaa

/- Walks: the document's memory: a note; pieces; what is told. -/
import Derived.Test.YtkbobgblohohcaaRefA
namespace Go.Proofs.Ytkbobgblohohcaa
open Go.RowKit Go.Mm Go.Cells
section
variable {base r lb : Nat} {F : Nat → Prop} {w : World} {S : Cm}
theorem rnote_fin {x : Acc} {W w1 : World} {vL vT v1 : Value} {n : Nat} {L : List Wr} (H : RMem base F w r lb S) (FW : ∀ b, vL.ownBlock = some b → F b) (FT : ∀ b, vT.ownBlock = some b → F b)
    (OW : w.ownsRow base 175 3 vL L.length (L.flatMap fW)) (LK : LogOK L S.ws) (hlb : L.length ≤ lb) (LN : S.tr.length = n) (FA : Fr (fun _ => False) w W)
    (K1 : w1.ownsRow base 47 5 v1 (n + 1) (S.tr.flatMap fAcc ++ fAcc x)) (K3 : W.grownBy w1 vT.ownBlock) (K4 : v1.ownBlock = vT.ownBlock ∨ v1.ownBlock = some W.heap.size) (HB1 : Blk w1 r 141 #[.int .i64 (S.ws.length : Int), vL, vT, .int .i64 (S.bad : Int)]) (NW : vT.ownBlock = none ∨ vL.ownBlock ≠ vT.ownBlock) :
    RT base F w r lb (S.note x) (w1.setCell ⟨r, 2, none⟩ v1) := by
  have hf1 : Fr (fun k => vT.ownBlock = some k) w w1 := (FA.mono (T := fun k => vT.ownBlock = some k) fun _ h => h.elim).trans (Fr.grown K3) fun _ _ h => h
  have hf1' : Fr F w w1 := hf1.mono fun k hk => FT k hk
  have hs := Fr.setCell w1 ⟨r, 2, none⟩ v1
  have hsz : (w1.setCell ⟨r, 2, none⟩ v1).heap.size = w1.heap.size := by simp [World.setCell]
  refine ⟨fun k => F k ∨ (w.heap.size ≤ k ∧ k < w1.heap.size), ⟨⟨vL, v1, L, HB1.set 2 v1, ?_, ?_, fun b hb => .inl (FW b hb), fun b hb => ?_, LK, hlb⟩, .inl H.fg, fun k hk => ?_, H.wl⟩, fun k hk => hk.imp id fun h => h.1, hf1'.trans hs fun k _ (e : k = r) => e ▸ H.fg⟩
  · have O1 := hf1.own OW fun b hb hb' => by
      rcases NW with h | h
      · rw [h] at hb'; cases hb'
      · exact h (by rw [hb, hb'])
    exact hs.own O1 fun b hb (e : b = r) => own_ne O1 HB1 (by decide) (by rw [hb, e])
  · have : (S.note x).tr.length = n + 1 := by simp [Cm.note, LN]
    rw [this, show (S.note x).tr.flatMap fAcc = S.tr.flatMap fAcc ++ fAcc x from by simp [Cm.note]]
    exact hs.own K1 fun b hb (e : b = r) => own_ne K1 HB1 (by decide) (by rw [hb, e])
  · rcases K4 with h | h
    · exact .inl (FT b (h ▸ hb))
    · right
      have h2 := (own_lt K1 hb).2
      rw [hb] at h
      injection h with h
      have := FA.size
      omega
  · rw [hsz]
    rcases hk with hk | hk
    · have := H.lt k hk
      have := hf1.size
      omega
    · have := H.lt r H.fg
      omega
set_option maxRecDepth 100000 in
set_option maxHeartbeats 4000000 in
theorem rnote_any (k a v o : Int) (good : Bool) (h : RMem base F w r lb S) (hB : base ≤ w.heap.size) (hn : (S.tr.length + 1) * 40 ≤ 140737488355328) :
    Calls Try.prog 79 #[.pointer (some ⟨r, 0, none⟩), .agg #[.int .i8 k, .int .i64 a, .int .i64 v, .int .i64 o, .bool good]] w (ROpE base F r lb (S.note ⟨k, a, v, o, good⟩) (.tuple #[]) w) := by
  have H := Mm.hid h
  obtain ⟨vL, vT, L, h1, h2, h3, h4, h5, h6, h7⟩ := h.out
  obtain ⟨n, hnn⟩ : ∃ n, S.tr.length = n := ⟨_, rfl⟩
  rw [hnn] at h3 hn
  obtain ⟨A, c, rfl, hc, _, _⟩ := own_slice h3
  have OT := Mm.hid h3
  have OW := Mm.hid h2
  have B0 := Mm.hid h1
  have FW := Mm.hid h4
  have FT := Mm.hid h5
  have LK := Mm.hid h6
  have HL := Mm.hid h7
  have LN := Mm.hid hnn
  have lg := h1.lt
  have hne := own_ne h3 h1 (by decide)
  have NE := Mm.hid hne
  have NW : Hid ((Value.slice A n c).ownBlock = none ∨ vL.ownBlock ≠ (Value.slice A n c).ownBlock) := by
    rcases hA : (Value.slice A n c).ownBlock with _ | b
    · exact .inl rfl
    · refine .inr fun e => own_own_ne h3 h2 (by decide) hA e
  have c1 : w.cell? ⟨r, 2, none⟩ = some (.slice A n c) := h1.cell 2
  clear h h1 h2 h3 h4 h5 h6 h7 hnn hne
  have X1 := Mm.hid (Blk.new w #[.int .i8 k, .int .i64 a, .int .i64 v, .int .i64 o, .bool good] 47)
  have hone : ∀ u ∈ (#[Value.int .i8 k, .int .i64 a, .int .i64 v, .int .i64 o, .bool good] : Array Value).toList, u.oneCell' = true := by simp; exact ⟨rfl, rfl, rfl, rfl, rfl⟩
  have HO := Mm.hid hone
  clear hone
  have hs1 : (w.alloc (.cells #[.int .i8 k, .int .i64 a, .int .i64 v, .int .i64 o, .bool good] 47)).heap.size = w.heap.size + 1 := by simp
  have BX : Hid (Blk ((w.alloc (.cells #[.int .i8 k, .int .i64 a, .int .i64 v, .int .i64 o, .bool good] 47)).alloc (.cells #[.int .i8 k, .int .i64 a, .int .i64 v, .int .i64 o, .bool good] 47)) (w.heap.size + 1) 47 #[.int .i8 k, .int .i64 a, .int .i64 v, .int .i64 o, .bool good]) := by
    have h := Blk.new (w.alloc (.cells #[.int .i8 k, .int .i64 a, .int .i64 v, .int .i64 o, .bool good] 47)) #[.int .i8 k, .int .i64 a, .int .i64 v, .int .i64 o, .bool good] 47
    rw [hs1] at h
    exact h
  have OT2 : Hid (((w.alloc (.cells #[.int .i8 k, .int .i64 a, .int .i64 v, .int .i64 o, .bool good] 47)).alloc (.cells #[.int .i8 k, .int .i64 a, .int .i64 v, .int .i64 o, .bool good] 47)).drew.ownsRow base 47 5 (.slice A n c) n (S.tr.flatMap fAcc)) := ((OT.out.alloc _).alloc _).drew
  have GK : Hid (((w.alloc (.cells #[.int .i8 k, .int .i64 a, .int .i64 v, .int .i64 o, .bool good] 47)).alloc (.cells #[.int .i8 k, .int .i64 a, .int .i64 v, .int .i64 o, .bool good] 47)).drew.heap[r]? = w.heap[r]?) := (Below.heap_alloc (w.alloc (.cells #[.int .i8 k, .int .i64 a, .int .i64 v, .int .i64 o, .bool good] 47)) (.cells #[.int .i8 k, .int .i64 a, .int .i64 v, .int .i64 o, .bool good] 47) r (by rw [hs1]; omega)).trans (Below.heap_alloc w (.cells #[.int .i8 k, .int .i64 a, .int .i64 v, .int .i64 o, .bool good] 47) r lg)
  have FA : Hid (Fr (fun _ => False) w ((w.alloc (.cells #[.int .i8 k, .int .i64 a, .int .i64 v, .int .i64 o, .bool good] 47)).alloc (.cells #[.int .i8 k, .int .i64 a, .int .i64 v, .int .i64 o, .bool good] 47)).drew) := ((Fr.alloc _ w (.cells #[.int .i8 k, .int .i64 a, .int .i64 v, .int .i64 o, .bool good] 47)).trans (Fr.alloc (fun _ => False) _ (.cells #[.int .i8 k, .int .i64 a, .int .i64 v, .int .i64 o, .bool good] 47)) (fun _ _ h => h)).trans (Fr.drew (fun _ => False) _) (fun _ _ h => h)
  have hsB : base ≤ ((w.alloc (.cells #[.int .i8 k, .int .i64 a, .int .i64 v, .int .i64 o, .bool good] 47)).alloc (.cells #[.int .i8 k, .int .i64 a, .int .i64 v, .int .i64 o, .bool good] 47)).drew.heap.size := Nat.le_trans hB FA.out.size
  have HSB := Mm.hid hsB
  have lg2 : Hid (r < ((w.alloc (.cells #[.int .i8 k, .int .i64 a, .int .i64 v, .int .i64 o, .bool good] 47)).alloc (.cells #[.int .i8 k, .int .i64 a, .int .i64 v, .int .i64 o, .bool good] 47)).drew.heap.size) := Mm.hid (Nat.lt_of_lt_of_le lg FA.out.size)
  clear hs1 hsB
  go_enter Try.func79, Try.ntmps79
  go_wp2_with fail
  go_region_law ((refine step_ape1 base rfl (.tmp 8) (.tmp 10) 41 47 (.agg #[.int .i8 0, .int .i64 0, .int .i64 0, .int .i64 0, .bool false]) 5 40 #[.int .i8 k, .int .i64 a, .int .i64 v, .int .i64 o, .bool good] (w.heap.size + 1) rfl Try.underlying41 info47 rfl (by decide) (by decide) (.slice A n c) n _ rfl rfl (BX.out.keep rfl) rfl HO.out OT2.out HSB.out hn ?_; intro v1 w1 k1 k3 k4; have hb1 : Blk w1 r 141 #[.int .i64 (S.ws.length : Int), vL, .slice A n c, .int .i64 (S.bad : Int)] := (B0.out.keep GK.out).keep (k3.block r lg2.out (fun e => NE.out e.symm)); have d1 : w1.cell? ⟨r, 2, none⟩ = some (.slice A n c) := hb1.cell 2; have d2 : w1.frozen? ⟨r, 2, none⟩ = false := hb1.free 2; have K1 := Mm.hid k1; have K3 := Mm.hid k3; have K4 := Mm.hid k4; have HB1 := Mm.hid hb1; clear k1 k3 k4 hb1; obtain ⟨A1, c1', hv, _⟩ := own_slice K1.out; subst hv))
  all_goals go_end0
  all_goals exact ⟨rfl, rnote_fin H.out FW.out FT.out OW.out LK.out HL.out LN.out FA.out K1.out K3.out K4.out HB1.out NW.out⟩
/-- what is told of it -/
theorem rlen_any (h : RMem base F w r lb S) {n : Nat} (hn : S.ws.length = n) : Calls Try.prog 82 #[.pointer (some ⟨r, 0, none⟩)] w fun e w' => e = .returned (.int .i64 (n : Int)) ∧ w = w' := by
  obtain ⟨vL, vE, L, h1, _⟩ := h.out
  rw [hn] at h1
  have c0 : w.cell? ⟨r, 0, none⟩ = some (.int .i64 (n : Int)) := h1.cell 0
  clear h h1 hn
  go_enter Try.func82, Try.ntmps82
  go_wp2
  go_ret
  exact ⟨rfl, rfl⟩
theorem rbad_any (h : RMem base F w r lb S) {n : Nat} (hn : S.bad = n) : Calls Try.prog 40 #[.pointer (some ⟨r, 0, none⟩)] w fun e w' => e = .returned (.int .i64 (n : Int)) ∧ w = w' := by
  obtain ⟨vL, vE, L, h1, _⟩ := h.out
  rw [hn] at h1
  have c0 : w.cell? ⟨r, 3, none⟩ = some (.int .i64 (n : Int)) := h1.cell 3
  clear h h1 hn
  go_enter Try.func40, Try.ntmps40
  go_wp2
  go_ret
  exact ⟨rfl, rfl⟩
def RTrE (l : List Acc) (n : Nat) (w : World) (e : Ending) (w' : World) : Prop := ∃ A c, e = .returned (.slice A n c) ∧ n ≤ c ∧ Hid (Rd w A n 5 (l.flatMap fAcc)) ∧ w = w'
theorem rtrace_any (h : RMem base F w r lb S) {n : Nat} (hn : S.tr.length = n) : Calls Try.prog 39 #[.pointer (some ⟨r, 0, none⟩)] w (RTrE S.tr n w) := by
  obtain ⟨vL, vE, L, h1, _, h3, _⟩ := h.out
  rw [hn] at h3
  obtain ⟨A, c, rfl, hc, _, hr⟩ := own_slice h3
  have c0 : w.cell? ⟨r, 2, none⟩ = some (.slice A n c) := h1.cell 2
  have R := Mm.hid hr
  clear h h1 h3 hr
  go_enter Try.func39, Try.ntmps39
  go_wp2
  go_ret
  exact ⟨A, c, rfl, hc, R, rfl⟩
theorem rwithin_any (addr n : Int) (h : RMem base F w r lb S) (hnm : n ≤ 9223372036854775807) : Calls Try.prog 83 #[.pointer (some ⟨r, 0, none⟩), .int .i64 addr, .int .i64 n] w fun e w' => e = .returned (.bool (S.within addr n)) ∧ w = w' := by
  obtain ⟨vL, vE, L, h1, _⟩ := h.out
  have hwl := h.wl
  obtain ⟨m, hm⟩ : ∃ m, S.ws.length = m := ⟨_, rfl⟩
  rw [hm] at h1 hwl
  have c0 : w.cell? ⟨r, 0, none⟩ = some (.int .i64 (m : Int)) := h1.cell 0
  obtain ⟨b, hb⟩ : ∃ b, S.within addr n = b := ⟨_, rfl⟩
  rw [hb]
  have HB : Hid ((decide (0 ≤ addr) && (decide (0 ≤ n) && decide (addr ≤ (m : Int) - n))) = b) := by show _ = _; rw [← hb, ← hm]; rfl
  clear h h1 hm hb
  by_cases q1 : 0 ≤ addr
  · by_cases q2 : 0 ≤ n
    · by_cases q3 : addr ≤ (m : Int) - n
      · have : b = true := by rw [← HB.out]; simp [q1, q2, q3]
        subst this
        go_enter Try.func83, Try.ntmps83
        go_wp2
        go_ret
        exact ⟨rfl, rfl⟩
      · have : b = false := by rw [← HB.out]; simp [q3]
        subst this
        go_enter Try.func83, Try.ntmps83
        go_wp2
        go_ret
        exact ⟨rfl, rfl⟩
    · have : b = false := by rw [← HB.out]; simp [q2]
      subst this
      go_enter Try.func83, Try.ntmps83
      go_wp2
      go_ret
      exact ⟨rfl, rfl⟩
  · have : b = false := by rw [← HB.out]; simp [q1]
    subst this
    go_enter Try.func83, Try.ntmps83
    go_wp2
    go_ret
    exact ⟨rfl, rfl⟩
end
end Go.Proofs.Ytkbobgblohohcaa

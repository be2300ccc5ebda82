/- Walks: a move; how many hold; a room made. -/
import Derived.Test.YtkbobgblohohcaaTurnO
namespace Go.Proofs.Ytkbobgblohohcaa
open Go.RowKit Go.Mm Go.Cells
section
variable {base g : Nat} {w0 : World} {rb lL l0 l1 tb n cap k t : Nat} {bg : Int} {w : World}
theorem move_any (st : Int) (h : RS base g w0 rb lL l0 l1 tb n cap bg k w) (ht : t < n) (hn : n ≤ 8) (hp : ∀ j : Nat, j ≤ k → wrap64 (bg + (j : Int)) ≠ poison) (hk : k ≤ 1048576) (hs0 : 0 ≤ st) (hs6 : st ≤ 6) :
    Calls Try.prog 49 #[.pointer (some ⟨rb, 0, none⟩), .int .i64 (t : Int), .int .i64 st] w (MoveE base g w0 rb lL l0 l1 tb n cap bg (k + 1)) := by
  obtain ⟨G, v, S, Ts, came, left, m, h1, h2, h3⟩ := h
  have hck := h3.cek
  have hlc := h3.lec
  obtain ⟨T, hT⟩ : ∃ T, Ts[t]? = some T := ⟨_, List.getElem?_eq_getElem (by rw [h3.len]; exact ht)⟩
  obtain ⟨wb, W, num, holds, stays⟩ := T
  rcases h3.st t _ hT with ⟨q1, q2, q3, q4⟩ | ⟨b, q, q1, q2, q3, q4, q5, q6, q7, q8⟩
  · simp only at q1 q2 q3 q4
    subst q1 q2 q3 q4
    exact move_take st (Mm.hid h1) (Mm.hid h2) (Mm.hid h3) ht hn W (Mm.hid hT) (Mm.hid (hp came hck)) hk (by omega)
  · simp only at q1 q4 q5 q6 q7 q8
    subst q1 q4 q5
    cases holds
    · exact move_wait st (Mm.hid h1) (Mm.hid h2) (Mm.hid h3) ht hn b q stays (Mm.hid hT) q2 q3 (Mm.hid (hp left (by omega))) hk (by omega) hs0 hs6
    · rcases Int.lt_or_le 0 stays with h0 | h0
      · exact move_stay st (Mm.hid h1) (Mm.hid h2) (Mm.hid h3) ht hn b _ stays _ (Mm.hid hT) h0 q8
      · have : stays = 0 := by omega
        subst this
        exact move_leave st (Mm.hid h1) (Mm.hid h2) (Mm.hid h3) ht hn b _ _ (Mm.hid hT) (Mm.hid (hp left (by omega))) hk (by omega)
def HoldE (w : World) (e : Ending) (w' : World) : Prop := ∃ c : Nat, e = .returned (.int .i64 (c : Int)) ∧ c ≤ 1 ∧ w = w'
set_option maxRecDepth 100000 in
set_option maxHeartbeats 1000000 in
theorem holding_any (h : RS base g w0 rb lL l0 l1 tb n cap bg k w) (_ : n ≤ 8) : Calls Try.prog 50 #[.pointer (some ⟨rb, 0, none⟩)] w (HoldE w) := by
  obtain ⟨G, v, S, Ts, came, left, m, h1, h2, h3⟩ := h
  have H := Mm.hid h1
  have I := Mm.hid h3
  have r2 : w.cell? ⟨rb, 2, none⟩ = some (.slice (some ⟨tb, 0, none⟩) n cap) := h1.room.cell 2
  clear h1 h2 h3
  go_enter Try.func50, Try.ntmps50
  go_wp2_with fail
  go_loopw [3, 4] (fun c i wr => ∃ (j q : Nat), j ≤ n ∧ q ≤ 1 ∧ i = .int .i64 (j : Nat) ∧ c = .int .i64 (q : Nat) ∧ Hid (q = 1 → ∃ (i : Nat) (T : Tk), i < j ∧ Ts[i]? = some T ∧ T.holds = true) ∧ w = wr) (fun _ i _ => n - (intOf i).toNat)
  case atStart => exact ⟨0, 0, Nat.zero_le _, by decide, rfl, rfl, (fun h => by cases h), rfl⟩
  case round =>
    obtain ⟨j, q, hj, hq, rfl, rfl, HQ, rfl⟩ := hrel
    by_cases hlt : j < n
    · obtain ⟨T, hT⟩ : ∃ T, Ts[j]? = some T := ⟨_, List.getElem?_eq_getElem (by rw [I.out.len]; exact hlt)⟩
      have c2 := (H.out.at hT hlt).c2
      have HT := Mm.hid hT
      clear hT
      obtain ⟨b, hb⟩ : ∃ b, T.holds = b := ⟨_, rfl⟩
      have HB := Mm.hid hb
      rw [hb] at c2
      clear hb
      cases b
      · have Q2 : Hid (q = 1 → ∃ (i : Nat) (T : Tk), i < j + 1 ∧ Ts[i]? = some T ∧ T.holds = true) := fun h => by
          obtain ⟨i, T', a1, a2, a3⟩ := HQ.out h
          exact ⟨i, T', by omega, a2, a3⟩
        clear HQ
        go_wp2
        go_roundw
        case rel => exact ⟨j + 1, q, by omega, hq, by go_num, rfl, Q2.out, trivial⟩
        case measure => simp [intOf] <;> omega
      · have hq0 : q = 0 := by
          rcases Nat.eq_zero_or_pos q with h | h
          · exact h
          · obtain ⟨i, T', a1, a2, a3⟩ := HQ.out (by omega)
            have := I.out.only a2 HT.out a3 HB.out
            omega
        subst hq0
        have Q2 : Hid (1 = 1 → ∃ (i : Nat) (T : Tk), i < j + 1 ∧ Ts[i]? = some T ∧ T.holds = true) := fun _ => ⟨j, T, by omega, HT.out, HB.out⟩
        clear HQ
        go_wp2
        go_roundw
        case rel => exact ⟨j + 1, 1, by omega, by decide, by go_num, rfl, Q2.out, trivial⟩
        case measure => simp [intOf] <;> omega
    · go_wp2
      go_ret
      exact ⟨q, rfl, hq, rfl⟩
end
def idle : Tk := ⟨none, ⟨0, false, false⟩, -1, false, 0⟩
/-- a room while it is filled -/
def RP (base g : Nat) (w0 : World) (rb lL l0 l1 : Nat) (S : Cm) (i : Nat) (v : Value) (w : World) : Prop := ∃ G : Nat → Prop, HasG base g w0 G S w ∧ (∀ k, G k → base ≤ k) ∧ G rb ∧ G lL ∧ G l0 ∧ G l1 ∧ (∀ b, v.ownBlock = some b → G b) ∧
  Blk w rb 79 #[.pointer (some ⟨g, 0, none⟩), .slice (some ⟨lL, 0, none⟩) 2 2, v, .int .i64 0, .int .i64 0, .slice none 0 0] ∧ Blk w lL 64 #[.pointer (some ⟨l0, 0, none⟩), .pointer (some ⟨l1, 0, none⟩)] ∧ Blk w l0 146 #[.pointer (some ⟨g, 0, none⟩), .int .i64 1, .int .i64 2] ∧ Blk w l1 146 #[.pointer (some ⟨g, 0, none⟩), .int .i64 1, .int .i64 2] ∧ w.ownsRow base 153 4 v i ((List.replicate i idle).flatMap fT)
theorem idle_snoc (i : Nat) : (List.replicate i idle).flatMap fT ++ [.pointer none, .int .i64 (-1), .bool false, .int .i64 0] = (List.replicate (i + 1) idle).flatMap fT := by
  rw [List.replicate_succ', List.flatMap_append]
  rfl
section
variable {base g : Nat} {w0 : World} {rb lL l0 l1 i n : Nat} {w : World} {S : Cm} {v v1 : Value} {w1 : World}
theorem RP.push (h : RP base g w0 rb lL l0 l1 S i v w) (K1 : w1.ownsRow base 153 4 v1 (i + 1) ((List.replicate i idle).flatMap fT ++ [.pointer none, .int .i64 (-1), .bool false, .int .i64 0])) (K3 : w.grownBy w1 v.ownBlock) (K4 : v1.ownBlock = v.ownBlock ∨ (∃ b, v1.ownBlock = some b ∧ w.heap.size ≤ b ∧ ∀ k, k < w.heap.size → w1.heap[k]? = w.heap[k]?)) :
    RP base g w0 rb lL l0 l1 S (i + 1) v1 (w1.setCell ⟨rb, 2, none⟩ v1) := by
  obtain ⟨G, h1, h2, h3, h4, h5, h6, h7, h8, h9, h10, h11, h12⟩ := h
  have hf1 : Fr (fun k => v.ownBlock = some k) w w1 := Fr.grown K3
  have hs := Fr.setCell w1 ⟨rb, 2, none⟩ v1
  have hf : Fr (fun k => v.ownBlock = some k ∨ k = rb) w (w1.setCell ⟨rb, 2, none⟩ v1) := (hf1.mono fun k hk => .inl hk).trans hs fun k _ e => .inr e
  have nv : ∀ {b t : Nat} {cs : Array Value}, Blk w b t cs → t ≠ 153 → ¬ v.ownBlock = some b := fun hb ht => own_ne h12 hb ht
  have R6 := hf1.blk h8 (nv h8 (by decide))
  have hsz : (w1.setCell ⟨rb, 2, none⟩ v1).heap.size = w1.heap.size := by simp [World.setCell]
  have hb := h1.le
  refine ⟨_, h1.more hf (fun k hk => hk.elim (fun e => ⟨h7 k e, h2 k (h7 k e)⟩) fun e => ⟨e ▸ h3, e ▸ h2 _ h3⟩), ?_, .inl h3, .inl h4, .inl h5, .inl h6, ?_, R6.set 2 v1, hs.blk (hf1.blk h9 (nv h9 (by decide))) (blk_ne h9 h8 (by decide)), hs.blk (hf1.blk h10 (nv h10 (by decide))) (blk_ne h10 h8 (by decide)), hs.blk (hf1.blk h11 (nv h11 (by decide))) (blk_ne h11 h8 (by decide)), ?_⟩
  · rintro k (hk | hk)
    · exact h2 k hk
    · omega
  · intro b hb'
    rcases K4 with e | ⟨b', e, e2, _⟩
    · exact .inl (h7 b (e ▸ hb'))
    · right
      have h2 := (own_lt K1 hb').2
      rw [hb'] at e
      injection e with e
      omega
  · rw [← idle_snoc]
    exact hs.own K1 fun b hb' e => own_ne K1 R6 (by decide) (by rw [hb', show b = rb from e])
theorem wrap_id {x : Int} (h : (Lit.int .i64 x).wf = true) : x = wrap64 (x + ((0 : Nat) : Int)) := by
  have : -9223372036854775808 ≤ x ∧ x ≤ 9223372036854775807 := by simpa [Lit.wf, IntKind.min, IntKind.max, IntKind.signed, IntKind.bits] using h
  unfold wrap64
  omega
theorem RP.fin (h : RP base g w0 rb lL l0 l1 S n v w) (hn : 0 < n) {bg : Int} (hb : bg = wrap64 (bg + ((0 : Nat) : Int))) (a1 : S.ws[1]? = some bg) (a2 : S.ws[2]? = some bg) (a3 : S.tr.length ≤ 2) (a4 : S.bad ≤ 0) : ∃ tb cap, n ≤ cap ∧ RS base g w0 rb lL l0 l1 tb n cap bg 0 w := by
  obtain ⟨G, h1, h2, h3, h4, h5, h6, h7, h8, h9, h10, h11, h12⟩ := h
  obtain ⟨tb, cap, rfl, hc, _⟩ := own_blk h12 hn
  have rep : ∀ (i : Nat) (T : Tk), (List.replicate n idle)[i]? = some T → T = idle := fun i T hT => by
    have := List.mem_of_getElem? hT
    exact List.eq_of_mem_replicate this
  refine ⟨tb, cap, hc, G, .slice none 0 0, S, List.replicate n idle, 0, 0, 0, ⟨h2, h3, h4, h5, h6, h7 tb rfl, (fun b hb => by cases hb), h8, h9, h10, h11, h12, ⟨rfl, .inl ⟨rfl, rfl⟩⟩, fun i T hT b hb' => ?_, fun i j T T' hij hT hT' b hb' => ?_⟩, h1, ⟨List.length_replicate, hb ▸ a1, hb ▸ a2, Nat.le_refl _, Nat.le_refl _, a3, a4, fun i T hT => ?_, fun i j T T' hij hT hT' h0 => ?_, fun _ => rfl, fun i T hT hh => ?_⟩⟩
  · rw [rep i T hT] at hb'; cases hb'
  · rw [rep i T hT] at hb'; cases hb'
  · rw [rep i T hT]; exact .inl ⟨rfl, rfl, rfl, rfl⟩
  · rw [rep i T hT] at h0; exact absurd (show (0 : Int) ≤ -1 from h0) (by decide)
  · rw [rep i T hT] at hh; cases hh
end
end Go.Proofs.Ytkbobgblohohcaa

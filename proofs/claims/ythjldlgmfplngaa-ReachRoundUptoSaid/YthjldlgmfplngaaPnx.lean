/- Walk: what Path asks of each name: its lines, and by whom each was led to. -/
import Derived.Test.YthjldlgmfplngaaUp
import Derived.Test.YthjldlgmfplngaaWay
namespace Go.Proofs.Ythjldlgmfplngaa
open Go.RowKit Go.Mm Go.Maps Go.Reach Go.WideMaps
theorem zero79 (w : World) : (zeroValue 79).run Try.prog w = .ok (.agg #[.string ByteArray.empty]) w := by kernel_rfl
def fO (z : ByteArray) : Value := .agg #[.string z]
/-- the lines in a box, the reasons in a box, the first name in a box -/
structure PaB (base bb mb n : Nat) (M : ByteArray → Option Value) (ps : List Pr) (rb rm fb : Nat) (x : ByteArray) (W : ByteArray → Option ByteArray) (w : World) : Prop where
  up : UpB base bb mb n M ps w
  rbox : Blk w rb 77 #[.map (some rm)]
  fbox : Blk w fb 9 #[.string x]
  why : ∃ K : List ByteArray, K.Nodup ∧ (∀ y ∈ K, y ∈ all ps x) ∧ (∀ y ∈ K, (W y).isSome = true) ∧ MapB Try.prog 9 κs w rm K.length fun y => (W y).map fO
  ge : base ≤ rb ∧ base ≤ rm ∧ base ≤ fb
  ne : rm ≠ mb
def PaG (bb mb : Nat) (M : ByteArray → Option Value) (rb rm fb : Nat) (k : Nat) : Prop := k = rb ∨ k = rm ∨ k = fb ∨ UpG bb mb M k
section
variable {base bb mb n rb rm fb : Nat} {M : ByteArray → Option Value} {ps : List Pr} {x : ByteArray} {W W' : ByteArray → Option ByteArray} {w w' : World}
theorem PaB.rlt (h : PaB base bb mb n M ps rb rm fb x W w) : rm < w.heap.size := by
  obtain ⟨_, _, _, _, m⟩ := h.why
  exact m.lt
theorem PaB.keep (h : PaB base bb mb n M ps rb rm fb x W w) (hk : ∀ k, PaG bb mb M rb rm fb k → w'.heap[k]? = w.heap[k]?) : PaB base bb mb n M ps rb rm fb x W w' := by
  obtain ⟨K, k1, k2, k3, m⟩ := h.why
  exact ⟨h.up.keep fun k hG => hk k (.inr (.inr (.inr hG))), h.rbox.keep (hk _ (.inl rfl)), h.fbox.keep (hk _ (.inr (.inr (.inl rfl)))), ⟨K, k1, k2, k3, m.keep (hk _ (.inr (.inl rfl)))⟩, h.ge, h.ne⟩
theorem PaB.glt (h : PaB base bb mb n M ps rb rm fb x W w) : ∀ k, PaG bb mb M rb rm fb k → base ≤ k ∧ k < w.heap.size := by
  rintro k (rfl | rfl | rfl | hk)
  · exact ⟨h.ge.1, h.rbox.lt⟩
  · exact ⟨h.ge.2.1, h.rlt⟩
  · exact ⟨h.ge.2.2, h.fbox.lt⟩
  · exact h.up.glt k hk
theorem PaB.fr (h : PaB base bb mb n M ps rb rm fb x W w) (hf : Fr (fun _ => False) w w') : PaB base bb mb n M ps rb rm fb x W w' :=
  h.keep fun k hk => hf.block k (h.glt k hk).2 fun h => h
theorem PaB.to (h : PaB base bb mb n M ps rb rm fb x W w) (he : ∀ y, W y = W' y) : PaB base bb mb n M ps rb rm fb x W' w := by
  rw [← funext he]; exact h
/-- the map of the reasons is written -/
theorem PaB.put (h : PaB base bb mb n M ps rb rm fb x W w) {y z : ByteArray} (hy : W y = none) (hU : y ∈ all ps x) (hn : ∀ K : List ByteArray, K.Nodup → (∀ y ∈ K, y ∈ all ps x) → K.length < maxLen) (hs : y.size ≤ maxLen) :
    ∃ w', (Instr.mapUpdate 77 (.map (some rm)) (.string y) (.agg #[.string z])).run Try.prog w = .ok () w' ∧ PaB base bb mb n M ps rb rm fb x (fun q => if q = y then some z else W q) w' ∧ Fr (fun k => k = rm) w w' := by
  obtain ⟨K, k1, k2, k3, m⟩ := h.why
  obtain ⟨w', hr, m1, g1⟩ := m.put law9 κs_inj κs_lit Try.underlying77 (hn K k1 k2) (keyOf_string_mk (P := Try.prog) (k := 9) Try.underlying9 hs) (.agg #[.string z])
  have f1 : Fr (fun k => k = rm) w w' := (Fr.grown g1).mono fun k e => by injection e with e; exact e.symm
  have hyK : y ∉ K := fun hm => by have := k3 y hm; rw [hy] at this; cases this
  refine ⟨w', hr, ⟨h.up.keep fun k hk => f1.block k (h.up.glt k hk).2 fun e => ?_, f1.blk h.rbox (fun e => m.ne_blk h.rbox e.symm), f1.blk h.fbox (fun e => m.ne_blk h.fbox e.symm), ⟨K ++ [y], ?_, ?_, ?_, ?_⟩, h.ge, h.ne⟩, f1⟩
  · subst e
    rcases hk with rfl | rfl | ⟨q, hq⟩
    · exact m.ne_blk h.up.box rfl
    · exact h.ne rfl
    · exact m.ne_own (h.up.lin.row q) hq
  · have := nodup_put1 (y := y) k1
    rwa [put1_out hyK] at this
  · intro q hq
    rcases List.mem_append.1 hq with h | h
    · exact k2 q h
    · rw [List.mem_singleton.1 h]; exact hU
  · intro q hq
    by_cases e : q = y
    · rw [if_pos e]; rfl
    · rw [if_neg e]
      rcases List.mem_append.1 hq with h | h
      · exact k3 q h
      · exact absurd (List.mem_singleton.1 h) e
  · rw [List.length_append, List.length_singleton]
    refine m1.to fun q => ?_
    unfold upd
    by_cases e : q = y
    · rw [if_pos e, if_pos e]; rfl
    · rw [if_neg e, if_neg e]
theorem PaB.look_ok (h : PaB base bb mb n M ps rb rm fb x W w) {y : ByteArray} (hs : y.size ≤ maxLen) :
    (Instr.lookup 77 (.map (some rm)) (.string y) true).run Try.prog w = .ok (.tuple #[(((W y).map fO).getD (.agg #[.string ByteArray.empty])), .bool (W y).isSome]) w := by
  obtain ⟨K, k1, k2, k3, m⟩ := h.why
  have := m.look_ok law9 Try.underlying77 (zero79 w) (keyOf_string_mk (P := Try.prog) (k := 9) Try.underlying9 hs)
  rw [this]
  simp
theorem PaB.look (h : PaB base bb mb n M ps rb rm fb x W w) {y : ByteArray} (hs : y.size ≤ maxLen) :
    (Instr.lookup 77 (.map (some rm)) (.string y) false).run Try.prog w = .ok (((W y).map fO).getD (.agg #[.string ByteArray.empty])) w := by
  obtain ⟨K, k1, k2, k3, m⟩ := h.why
  exact m.look law9 Try.underlying77 (zero79 w) (keyOf_string_mk (P := Try.prog) (k := 9) Try.underlying9 hs)
end
def PaI (base bb mb n : Nat) (M : ByteArray → Option Value) (ps : List Pr) (rb rm fb : Nat) (x : ByteArray) (d : List ByteArray) (G : Nat → Prop) (w : World) : Prop := G = PaG bb mb M rb rm fb ∧ PaB base bb mb n M ps rb rm fb x (why (line ps) x d) w
theorem pa_inv (base bb mb n : Nat) (M : ByteArray → Option Value) (ps : List Pr) (rb rm fb : Nat) (x : ByteArray) : Inv (PaI base bb mb n M ps rb rm fb x) :=
  ⟨fun _ _ _ _ ⟨e, h⟩ _ hk => ⟨e, h.keep fun k hG => hk k (e ▸ hG)⟩, fun _ _ _ k ⟨e, h⟩ hk => (h.glt k (e ▸ hk)).2⟩
set_option maxRecDepth 100000 in
set_option maxHeartbeats 1000000 in
theorem pa_next (base bb mb n : Nat) (M : ByteArray → Option Value) (ps : List Pr) (rb rm fb : Nat) (x : ByteArray) (hx : x.size ≤ maxLen) (hs : Szs ps) (hl : ps.length * 32 + 16 ≤ 140737488355328) : NextAt 49 #[.pointer (some ⟨bb, 0, none⟩), .pointer (some ⟨rb, 0, none⟩), .pointer (some ⟨fb, 0, none⟩)] (line ps) (PaI base bb mb n M ps rb rm fb x) (all ps x) := by
  intro d G w z ⟨hG, h⟩ hz
  obtain ⟨A, c, hv, hc, hA, hR⟩ := own_slice (h.up.lin.row z)
  obtain ⟨N, hN⟩ : ∃ N, (line ps z).length = N := ⟨_, rfl⟩
  have hzs : z.size ≤ maxLen := all_sz hs hx z hz
  have KZ := Mm.hid (keyOf_string_mk (P := Try.prog) (k := 9) Try.underlying9 hzs)
  have HS := Mm.hid (all_sz hs hx)
  have hn9 : N ≤ 4611686018427387904 := by
    have := line_len ps z
    omega
  have HN := Mm.hid hN
  have R := Mm.hid hR
  have HV := Mm.hid hv
  have HA := Mm.hid hA
  have H := Mm.hid h
  have HG := Mm.hid hG
  have HL := Mm.hid hl
  rw [hN] at hc
  have e0 : w.cell? ⟨bb, 0, none⟩ = some (.map (some mb)) := h.up.box.cell 0
  have lk : (Instr.lookup 74 (.map (some mb)) (.string z) false).run Try.prog w = .ok (.slice A N c) w := by
    have := h.up.lin.map.look law9 Try.underlying74 (zero33 w) KZ.out
    rw [this]
    rw [← hN, ← hv]
  have ST : Hid (∃ l, l = (line ps z).take 0 ∧ PaB base bb mb n M ps rb rm fb x (whyAt (line ps) x d z l) w ∧ Fr (fun k => k = rm) w w) := ⟨_, rfl, h.to fun y => (whyAt_nil _ _ _ _ _).symm, Fr.refl _ _⟩
  have HZ := Mm.hid hz
  clear h hG hz hs hl hv hR hA hN
  go_enter Try.func49, Try.ntmps49
  go_wp2_with fail
  go_loopw [7, 8, 9, 14] (fun _ _ _ i wr => ∃ k : Nat, k ≤ N ∧ i = .int .i64 (k : Nat) ∧ Hid (∃ l, l = (line ps z).take k ∧ PaB base bb mb n M ps rb rm fb x (whyAt (line ps) x d z l) wr ∧ Fr (fun k => k = rm) w wr)) (fun _ _ _ i _ => N - (intOf i).toNat)
  case atStart => exact ⟨0, Nat.zero_le _, rfl, ST.out⟩
  case round =>
    obtain ⟨k, hk, rfl, HK⟩ := hrel
    clear ST
    obtain ⟨l, hl, P, F⟩ := HK.out
    by_cases hlt : k < N
    · obtain ⟨y, hy⟩ : ∃ y, (line ps z)[k]? = some y := ⟨_, List.getElem?_eq_getElem (by rw [HN.out]; exact hlt)⟩
      have NE : Hid (∀ ad, A = some ad → ¬ ad.block = rm) := fun ad ha e => by
        obtain ⟨_, _, _, _, m⟩ := H.out.why
        exact m.ne_own (H.out.up.lin.row z) (e ▸ HA.out ad ha)
      obtain ⟨ad, rfl, _, f1⟩ := (F.rd R.out NE.out).cell (strs_get hy)
      have YS := Mm.hid (HS.out y (all_line z HZ.out y (List.mem_of_getElem? hy)))
      have YU := Mm.hid (all_line z HZ.out y (List.mem_of_getElem? hy))
      have TK : Hid ((line ps z).take (k + 1) = l ++ [y]) := by show _ = _; rw [take_snoc' hy, hl]
      have d0 : wr.cell? ⟨rb, 0, none⟩ = some (.map (some rm)) := P.rbox.cell 0
      have d1 : wr.cell? ⟨fb, 0, none⟩ = some (.string x) := P.fbox.cell 0
      have lk2 := P.look_ok YS.out
      have PH := Mm.hid P
      have FH := Mm.hid F
      clear P F hl hy HK
      cases hW : whyAt (line ps) x d z l y with
      | some q =>
        rw [hW] at lk2
        simp only [Option.map_some, Option.getD_some, Option.isSome_some, fO] at lk2
        have NX : Hid (∃ l, l = (line ps z).take (k + 1) ∧ PaB base bb mb n M ps rb rm fb x (whyAt (line ps) x d z l) (wr.alloc (.cells #[.string q] 79)) ∧ Fr (fun k => k = rm) w (wr.alloc (.cells #[.string q] 79))) := by
          refine ⟨_, TK.out.symm, (PH.out.to fun u => (whyAt_old (.inr (by rw [hW]; rfl)) u).symm).fr (Fr.alloc (fun _ => False) wr _), FH.out.trans (Fr.alloc (fun _ => False) wr _) fun _ _ h => h.elim⟩
        clear hW PH FH
        go_wp2_with fail
        go_roundw
        case rel => exact ⟨k + 1, by omega, by go_num, NX.out⟩
        case measure => simp [intOf] <;> omega
      | none =>
        rw [hW] at lk2
        simp only [Option.map_none, Option.getD_none, Option.isSome_none] at lk2
        have d2 : (wr.alloc (.cells #[.string ByteArray.empty] 79)).cell? ⟨rb, 0, none⟩ = some (.map (some rm)) := (PH.out.fr (Fr.alloc (fun _ => False) wr _)).rbox.cell 0
        have d3 : (wr.alloc (.cells #[.string ByteArray.empty] 79)).cell? ⟨fb, 0, none⟩ = some (.string x) := (PH.out.fr (Fr.alloc (fun _ => False) wr _)).fbox.cell 0
        by_cases hyx : y = x
        · have hs := str_same x
          have NX : Hid (∃ l, l = (line ps z).take (k + 1) ∧ PaB base bb mb n M ps rb rm fb x (whyAt (line ps) x d z l) (wr.alloc (.cells #[.string ByteArray.empty] 79)) ∧ Fr (fun k => k = rm) w (wr.alloc (.cells #[.string ByteArray.empty] 79))) := by
            refine ⟨_, TK.out.symm, (PH.out.to fun u => (whyAt_old (.inl hyx) u).symm).fr (Fr.alloc (fun _ => False) wr _), FH.out.trans (Fr.alloc (fun _ => False) wr _) fun _ _ h => h.elim⟩
          clear hW PH FH
          subst hyx
          go_wp2_with fail
          go_roundw
          case rel => exact ⟨k + 1, by omega, by go_num, NX.out⟩
          case measure => simp [intOf] <;> omega
        · have hs := str_ne hyx
          have HY : Hid (∀ K : List ByteArray, K.Nodup → (∀ y ∈ K, y ∈ all ps x) → K.length < maxLen) := fun K k1 k2 => by
            have := nodup_le k1 k2
            rw [all_len] at this
            have := HL.out
            unfold maxLen
            omega
          obtain ⟨wb, hrun, P2, F2⟩ := (PH.out.fr (Fr.alloc (fun _ => False) wr (.cells #[.string ByteArray.empty] 79))).put (z := z) hW YU.out HY.out YS.out
          have NX : Hid (∃ l, l = (line ps z).take (k + 1) ∧ PaB base bb mb n M ps rb rm fb x (whyAt (line ps) x d z l) wb ∧ Fr (fun k => k = rm) w wb) := by
            refine ⟨_, TK.out.symm, P2.to fun u => (whyAt_new hyx hW u).symm, (FH.out.trans (Fr.alloc (fun _ => False) wr (.cells #[.string ByteArray.empty] 79)) fun _ _ h => h.elim).trans F2 fun _ _ h => h⟩
          clear hW PH FH P2 F2 hyx
          go_wp2_with fail
          go_roundw
          case rel => exact ⟨k + 1, by omega, by go_num, NX.out⟩
          case measure => simp [intOf] <;> omega
    · have hkN : k = N := by omega
      subst hkN
      obtain ⟨l, hl, P, F⟩ := HK.out
      have hlN : l = line ps z := by rw [hl, List.take_of_length_le (by rw [HN.out]; exact Nat.le_refl _)]
      subst hlN
      have e0' : wr.cell? ⟨bb, 0, none⟩ = some (.map (some mb)) := P.up.box.cell 0
      have lk' : (Instr.lookup 74 (.map (some mb)) (.string z) false).run Try.prog wr = .ok (.slice A k c) wr := by
        have := P.up.lin.map.look law9 Try.underlying74 (zero33 wr) KZ.out
        rw [this, ← HN.out, ← HV.out]
      have PH := Mm.hid P
      have FH := Mm.hid F
      clear hl P F HK e0 lk
      go_wp2_with fail
      go_ret
      have hG := HG.out
      have hRr := (PH.out.up.lin.row z)
      rw [HV.out] at hRr
      have hRr' := Rd.of_own hRr
      rw [HN.out] at hRr'
      refine ⟨A, k, c, PaG bb mb M rb rm fb, rfl, hc, hRr', ⟨rfl, PH.out.to fun y => whyAt_end _ _ _ _ _⟩, fun j hj => .inl (by rw [hG]; exact hj), fun hn ad ha => ?_, FH.out.mono fun j (e : j = rm) => by rw [hG, e]; exact .inr (.inl rfl)⟩
      have hb := HA.out ad ha
      have hlt2 := (own_lt (PH.out.up.lin.row z) hb).2
      exact ⟨hlt2, .inl (.inr (.inr (.inr (.inr (.inr ⟨z, hb⟩)))))⟩
end Go.Proofs.Ythjldlgmfplngaa

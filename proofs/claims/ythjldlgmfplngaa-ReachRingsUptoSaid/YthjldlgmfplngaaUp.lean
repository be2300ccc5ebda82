/- Walk: Up: what is reached from a name. -/
import Derived.Test.YthjldlgmfplngaaLines
namespace Go.Proofs.Ythjldlgmfplngaa
open Go.RowKit Go.Mm Go.Maps Go.Reach Go.WideMaps
theorem own_keep {w w' : World} {base : Nat} {e : TypeId} {sz n : Nat} {v : Value} {xs : List Value} (ho : w.ownsRow base e sz v n xs) (hk : ∀ b, v.ownBlock = some b → w'.heap[b]? = w.heap[b]?) : w'.ownsRow base e sz v n xs := by
  refine ⟨ho.1, ?_⟩
  rcases ho.2 with h0 | ⟨g, cap, cur, rfl, hb, hg, r⟩
  · exact .inl h0
  · exact .inr ⟨g, cap, cur, rfl, hb, (hk g rfl).trans hg, r⟩
/-- the map of lists in a box -/
structure UpB (base bb mb n : Nat) (M : ByteArray → Option Value) (ps : List Pr) (w : World) : Prop where
  box : Blk w bb 74 #[.map (some mb)]
  lin : LinB base mb n M ps w
  ge : base ≤ bb
def UpG (bb mb : Nat) (M : ByteArray → Option Value) (k : Nat) : Prop := k = bb ∨ LinG mb M k
section
variable {base bb mb n : Nat} {M : ByteArray → Option Value} {ps : List Pr} {w w' : World}
theorem UpB.keep (h : UpB base bb mb n M ps w) (hk : ∀ k, UpG bb mb M k → w'.heap[k]? = w.heap[k]?) : UpB base bb mb n M ps w' :=
  ⟨h.box.keep (hk _ (.inl rfl)), ⟨h.lin.map.keep (hk _ (.inr (.inl rfl))), fun x => own_keep (h.lin.row x) fun _ hb => hk _ (.inr (.inr ⟨x, hb⟩)), h.lin.apart, h.lin.ge⟩, h.ge⟩
theorem UpB.glt (h : UpB base bb mb n M ps w) : ∀ k, UpG bb mb M k → base ≤ k ∧ k < w.heap.size := by
  rintro k (rfl | hk)
  · exact ⟨h.ge, h.box.lt⟩
  · exact h.lin.glt k hk
end
def UpI (base bb mb n : Nat) (M : ByteArray → Option Value) (ps : List Pr) (_ : List ByteArray) (G : Nat → Prop) (w : World) : Prop := G = UpG bb mb M ∧ UpB base bb mb n M ps w
theorem up_inv (base bb mb n : Nat) (M : ByteArray → Option Value) (ps : List Pr) : Inv (UpI base bb mb n M ps) :=
  ⟨fun _ _ _ _ ⟨e, h⟩ _ hk => ⟨e, h.keep fun k hG => hk k (e ▸ hG)⟩, fun _ _ _ k ⟨e, h⟩ hk => (h.glt k (e ▸ hk)).2⟩
set_option maxRecDepth 100000 in
set_option maxHeartbeats 1000000 in
theorem up_look (base bb mb n : Nat) (M : ByteArray → Option Value) (ps : List Pr) (x : ByteArray) (hx : x.size ≤ maxLen) (w : World) (h : UpB base bb mb n M ps w) :
    Calls Try.prog 47 #[.string x, .pointer (some ⟨bb, 0, none⟩)] w fun e w' => e = .returned ((M x).getD nilS) ∧ w' = w := by
  have KY := Mm.hid (keyOf_string_mk (P := Try.prog) (k := 9) Try.underlying9 hx)
  have H := Mm.hid h
  have e0 : w.cell? ⟨bb, 0, none⟩ = some (.map (some mb)) := h.box.cell 0
  have lk : (Instr.lookup 74 (.map (some mb)) (.string x) false).run Try.prog w = .ok ((M x).getD nilS) w := h.lin.map.look law9 Try.underlying74 (zero33 w) KY.out
  clear h hx
  go_enter Try.func47, Try.ntmps47
  go_wp2_with fail
  go_ret
  exact ⟨rfl, rfl⟩
theorem up_next (base bb mb n : Nat) (M : ByteArray → Option Value) (ps : List Pr) (U : List ByteArray) (hU : ∀ x ∈ U, x.size ≤ maxLen) : NextAt 47 #[.pointer (some ⟨bb, 0, none⟩)] (line ps) (UpI base bb mb n M ps) U := by
  intro d G w x ⟨hG, h⟩ hx
  refine (up_look base bb mb n M ps x (hU x hx) w h).mono ?_
  rintro e w' ⟨rfl, rfl⟩
  obtain ⟨A, c, hv, hc, hA, hR⟩ := own_slice (h.lin.row x)
  refine ⟨A, _, c, G, by rw [hv], hc, hR, ⟨hG, h⟩, fun k hk => .inl hk, fun hn ad ha => ?_, Fr.refl _ _⟩
  have hb := hA ad ha
  exact ⟨(own_lt (h.lin.row x) hb).2, .inl (by rw [hG]; exact .inr (.inr ⟨x, hb⟩))⟩
/-- all the names that may be reached -/
def all (ps : List Pr) (x : ByteArray) : List ByteArray := x :: ps.map Pr.b
structure Szs (ps : List Pr) : Prop where
  a : ∀ p ∈ ps, p.a.size ≤ maxLen
  b : ∀ p ∈ ps, p.b.size ≤ maxLen
theorem all_sz {ps : List Pr} {x : ByteArray} (h : Szs ps) (hx : x.size ≤ maxLen) : ∀ y ∈ all ps x, y.size ≤ maxLen := by
  intro y hy
  rcases List.mem_cons.1 hy with rfl | hy
  · exact hx
  · obtain ⟨p, hp, rfl⟩ := List.mem_map.1 hy
    exact h.b p hp
theorem all_line {ps : List Pr} {x : ByteArray} : ∀ y ∈ all ps x, ∀ z ∈ line ps y, z ∈ all ps x := by
  intro y _ z hz
  obtain ⟨p, hp, _, rfl⟩ := mem_line.1 hz
  exact List.mem_cons_of_mem _ (List.mem_map.2 ⟨p, hp, rfl⟩)
theorem all_len (ps : List Pr) (x : ByteArray) : (all ps x).length = ps.length + 1 := by simp [all]
def UpE (ps : List Pr) (x : ByteArray) (w : World) (e : Ending) (w' : World) : Prop :=
  ∃ v L, e = .returned v ∧ Whole (line ps) [x] L ∧ w'.ownsRow w.heap.size 9 1 v L.length (strs L) ∧ Fr (fun _ => False) w w'
set_option maxRecDepth 100000 in
set_option maxHeartbeats 1000000 in
theorem up_any (ps : List Pr) (x : ByteArray) (A : Option Addr) (N c : Nat) (w : World) (hr : Rd w A N 2 (ps.flatMap fPr)) (hN : ps.length = N) (hs : Szs ps) (hx : x.size ≤ maxLen) (hl : N * 32 + 16 ≤ 140737488355328) :
    Calls Try.prog 28 #[.slice A N c, .string x] w (UpE ps x w) := by
  have hmf : ∀ (fn : Fn) (first cap : Array Value) (w : World), (Instr.makeFunc fn first cap).run Try.prog w = .ok (.func fn first cap) w := fun _ _ _ _ => rfl
  have LC := Mm.hid (lines_any ps A N c w hr hN hs.a (by omega))
  have HS := Mm.hid hs
  have HX := Mm.hid hx
  have HL := Mm.hid hl
  have HN := Mm.hid hN
  clear hr hN hs hx hl
  go_enter Try.func28, Try.ntmps28
  go_upto_region 2 with (go_at_call 46; refine LC.out.mono ?_; rintro e w1 ⟨mb, rfl, h1⟩)
  obtain ⟨n, M, hn, LB, F1⟩ := h1.out.out
  obtain ⟨w3, hw3⟩ : ∃ w3, (w1.alloc (.cells #[.map (some mb)] 74)).alloc (.cells #[.string x] 9) = w3 := ⟨_, rfl⟩
  have F3 : Hid (Fr (fun _ => False) w1 w3) := by show Fr _ _ _; rw [← hw3]; exact (Fr.alloc (fun _ => False) w1 _).trans (Fr.alloc (fun _ => False) _ _) fun _ _ h => h
  have UB : Hid (UpB w.heap.size w1.heap.size mb n M ps w3) := by
    refine ⟨?_, LB.fr F3.out fun _ h => h.elim, F1.size⟩
    have b := Blk.new w1 #[.map (some mb)] 74
    rw [← hw3]
    exact b.keep (Below.heap_alloc _ _ _ b.lt)
  have RX : Hid (Rd w3 (some ⟨w1.heap.size + 1, 0, none⟩) 1 1 (strs [x])) := by
    have := Rd.lit (w1.alloc (.cells #[.map (some mb)] 74)) #[.string x] 9 1 rfl
    rw [hw3, World.size_alloc] at this
    exact this
  have CC := Mm.hid (close_any 47 #[.pointer (some ⟨w1.heap.size, 0, none⟩)] (enters_of Try.func47 (by kernel_rfl) rfl) (line ps) (all ps x) (UpI w.heap.size w1.heap.size mb n M ps) (up_inv _ _ _ _ _ _) (up_next _ _ _ _ _ _ _ (all_sz HS.out HX.out)) (all_sz HS.out HX.out) all_line (fun y _ => by
    have := line_len ps y
    have := HL.out
    have := HN.out
    rw [all_len]; omega) [x] (fun y hy => by rw [List.mem_singleton.1 hy]; exact List.mem_cons_self ..) (by simp) _ 1 1 (UpG w1.heap.size mb M) w3 RX.out ⟨rfl, UB.out⟩)
  have FA := Mm.hid (F1.trans F3.out fun _ _ h => h)
  have GG := Mm.hid (fun k hk => (UB.out.glt k hk).1)
  have B0 := Mm.hid LB.ge
  clear LB F1 h1
  go_wp2_with (go_at_call 19; refine CC.out.mono ?_; rintro e w4 ⟨v, L, G, rfl, hw, hr, hi, hG, hv, hf⟩)
  go_ret
  refine ⟨v, L, rfl, by simpa [puts, put1] using hw, own_mono hr FA.out.size, FA.out.trans hf fun k hk hG => ?_⟩
  have := GG.out k hG
  omega
end Go.Proofs.Ythjldlgmfplngaa

/- Walk: are pairs as they were, and the room behind them? -/
import Derived.Test.YthjldlgmfplngaaTwin
namespace Go.Proofs.Ythjldlgmfplngaa
open Go.RowKit Go.Mm Go.Maps Go.Reach Go.WideMaps
theorem marked_at {ps : List Pr} {n j : Nat} (hl : ps.length = n) (h1 : n ≤ j) (h2 : j < n + 24) : (marked ps)[j]? = some spare := by
  unfold marked
  rw [List.getElem?_append_right (by omega), List.getElem?_replicate, if_pos (by omega)]
theorem marked_lt {ps : List Pr} {j : Nat} {p : Pr} (h : ps[j]? = some p) : (marked ps)[j]? = some p := by
  unfold marked
  rw [List.getElem?_append_left (List.getElem?_eq_some_iff.1 h).1, h]
/-- pairs, in part handed in -/
structure KeptB (base g c n : Nat) (A2 : Option Addr) (ps : List Pr) (w : World) : Prop where
  own : w.ownsRow base 37 2 (.slice (some ⟨g, 0, none⟩) (n + 24) c) (n + 24) ((marked ps).flatMap fPr)
  rd : Rd w A2 n 2 (ps.flatMap fPr)
  len : ps.length = n
theorem KeptB.at1 {base g c n j : Nat} {A2 : Option Addr} {ps : List Pr} {w : World} {p : Pr} (h : KeptB base g c n A2 ps w) (hp : (marked ps)[j]? = some p) : w.cell? ⟨g, j * 2, none⟩ = some (.string p.a) ∧ w.cell? ⟨g, j * 2 + 1, none⟩ = some (.string p.b) := by
  obtain ⟨g', cap', hv, _, _, _, hcell, _⟩ := own_blk h.own (by omega)
  injection hv with e1 _ _
  injection e1 with e1
  injection e1 with e1
  subst e1
  exact ⟨hcell (j * 2 + 0) _ (by rw [flatMap_at fPr_len hp (by decide)]; rfl), hcell (j * 2 + 1) _ (by rw [flatMap_at fPr_len hp (by decide)]; rfl)⟩
set_option maxRecDepth 100000 in
set_option maxHeartbeats 2000000 in
theorem kept_any (base g c : Nat) (A2 : Option Addr) (n c2 : Nat) (ps : List Pr) (w : World) (h : KeptB base g c n A2 ps w) (hn : n ≤ 4398046511104) (hc : n + 24 ≤ c) (hcm : c ≤ 9223372036854775807) (hc2 : n ≤ c2) :
    Calls Try.prog 30 #[.slice (some ⟨g, 0, none⟩) n c, .slice A2 n c2] w (SameEnds true w) := by
  have H := Mm.hid h
  clear h
  have e24 : ((n : Int) + 24) = ((n + 24 : Nat) : Int) := by omega
  have E24 := Mm.hid e24
  clear e24
  go_enter Try.func30, Try.ntmps30
  go_wp2_with fail
  go_loopw [5] (fun i wr => ∃ (k d : Nat), k ≤ n ∧ i = .int .i64 (k : Nat) ∧ wr = w.drewN d) (fun i _ => n - (intOf i).toNat)
  case atStart => exact ⟨0, 0, Nat.zero_le _, rfl, rfl⟩
  case round =>
    obtain ⟨k, d, hk, rfl, rfl⟩ := hrel
    by_cases hlt : k < n
    · obtain ⟨p, hp⟩ : ∃ p, ps[k]? = some p := ⟨_, List.getElem?_eq_getElem (by rw [H.out.len]; exact hlt)⟩
      obtain ⟨f0, f1⟩ := H.out.at1 (marked_lt hp)
      obtain ⟨ad2, rfl, _, g0, g1⟩ := rd_pr H.out.rd H.out.len hp
      have hs1 := str_same p.a
      have hs2 := str_same p.b
      clear hp
      go_wp2_with fail
      go_quiet (fail)
      go_wp2
      go_roundw
      case rel => exact ⟨k + 1, _, by omega, by go_num, rfl⟩
      case measure => simp [intOf] <;> omega
    · have hkn : k = n := by omega
      subst hkn
      go_wp2_with fail
      go_loopw [7] (fun i wr => ∃ (j : Nat), k ≤ j ∧ j ≤ k + 24 ∧ i = .int .i64 (j : Nat) ∧ wr = w.drewN d) (fun i _ => k + 24 - (intOf i).toNat)
      case atStart => exact ⟨k, Nat.le_refl _, by omega, rfl, rfl⟩
      case round =>
        obtain ⟨j, hj1, hj2, rfl, rfl⟩ := hrel
        by_cases hlt : j < k + 24
        · obtain ⟨f0, f1⟩ := H.out.at1 (marked_at H.out.len hj1 hlt)
          unfold spare at f0 f1
          go_wp2_with fail
          go_roundw
          case rel => exact ⟨j + 1, by omega, by omega, by go_num, trivial⟩
          case measure => simp [intOf] <;> omega
        · have hjk : j = k + 24 := by omega
          subst hjk
          go_wp2_with fail
          go_ret
          exact ⟨rfl, d, rfl⟩
end Go.Proofs.Ythjldlgmfplngaa

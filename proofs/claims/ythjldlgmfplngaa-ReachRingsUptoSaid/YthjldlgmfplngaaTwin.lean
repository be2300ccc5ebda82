/- Walks: pairs in memory of their own, with marked room behind them; pairs turned about. -/
import Derived.Test.YthjldlgmfplngaaSame
namespace Go.Proofs.Ythjldlgmfplngaa
open Go.RowKit Go.Mm Go.Maps Go.Reach Go.WideMaps
theorem info37 : (Try.prog.info? 37).map (fun i => (i.zero, i.size, i.bytes)) = some (some (.agg #[.string ByteArray.empty, .string ByteArray.empty]), 2, 32) := by kernel_rfl
/-- the mark -/
def spare : Pr := ⟨⟨#[115, 112, 97, 114, 101]⟩, ⟨#[114, 111, 111, 109]⟩⟩
def marked (ps : List Pr) : List Pr := ps ++ List.replicate 24 spare
theorem marked_len (ps : List Pr) : (marked ps).length = ps.length + 24 := by simp [marked]
theorem fPr_snoc (ps : List Pr) (p : Pr) : ps.flatMap fPr ++ (#[.string p.a, .string p.b] : Array Value).toList = (ps ++ [p]).flatMap fPr := by
  rw [List.flatMap_append]; rfl
theorem fPr_one (a b : ByteArray) : ∀ u ∈ (#[.string a, .string b] : Array Value).toList, u.oneCell' = true := by
  intro u hu
  simp at hu
  rcases hu with rfl | rfl <;> rfl
theorem pair_nil (w : World) (base : Nat) : w.ownsRow base 37 2 (.slice none 0 0) 0 (([] : List Pr).flatMap fPr) := ⟨rfl, .inl ⟨rfl, rfl⟩⟩
/-- a row of pairs so far -/
structure PrR (base : Nat) (v : Value) (m : Nat) (ps : List Pr) (w wr : World) : Prop where
  row : wr.ownsRow base 37 2 v m (ps.flatMap fPr)
  fr : Below base w wr
theorem PrR.snoc {base m : Nat} {v : Value} {ps : List Pr} {w wr : World} {p : Pr} (h : wr.ownsRow base 37 2 v (m + 1) (ps.flatMap fPr ++ (#[.string p.a, .string p.b] : Array Value).toList)) (hb : Below base w wr) : PrR base v (m + 1) (ps ++ [p]) w wr := ⟨by rw [← fPr_snoc]; exact h, hb⟩
def TwinE (ps : List Pr) (n : Nat) (w : World) (e : Ending) (w' : World) : Prop := ∃ g c, e = .returned (.slice (some ⟨g, 0, none⟩) n c) ∧ n + 24 ≤ c ∧ c ≤ 9223372036854775807 ∧ Hid (PrR w.heap.size (.slice (some ⟨g, 0, none⟩) (n + 24) c) (n + 24) (marked ps) w w' ∧ w.heap.size ≤ g)
set_option maxRecDepth 100000 in
set_option maxHeartbeats 2000000 in
theorem twin_any (A : Option Addr) (n c : Nat) (ps : List Pr) (w : World) (h : Rd w A n 2 (ps.flatMap fPr)) (hl : ps.length = n) (hn : n * 32 ≤ 140737488351232) :
    Calls Try.prog 27 #[.slice A n c] w (TwinE ps n w) := by
  have R := Mm.hid h
  have L := Mm.hid hl
  have ST : Hid (PrR w.heap.size (.slice none 0 0) 0 (ps.take 0) w w) := ⟨pair_nil w _, Below.refl _ _⟩
  have hn9 : n ≤ 140737488351232 := by omega
  have HN := Mm.hid hn
  clear h hl hn
  go_enter Try.func27, Try.ntmps27
  go_wp2_with fail
  go_loopw [3, 4] (fun v i wr => ∃ k : Nat, k ≤ n ∧ i = .int .i64 (k : Nat) ∧ Hid (PrR w.heap.size v k (ps.take k) w wr)) (fun _ i _ => n - (intOf i).toNat)
  case atStart => exact ⟨0, Nat.zero_le _, rfl, ST.out⟩
  case round =>
    obtain ⟨k, hk, rfl, HK⟩ := hrel
    clear ST
    by_cases hlt : k < n
    · obtain ⟨p, hp⟩ : ∃ p, ps[k]? = some p := ⟨_, List.getElem?_eq_getElem (by rw [L.out]; exact hlt)⟩
      obtain ⟨ad, rfl, _, f0, f1⟩ := rd_pr (R.out.below HK.out.fr) L.out hp
      have HP := Mm.hid hp
      have HL : Hid ((k + 1) * 32 ≤ 140737488355328) := by show _ ≤ _; have := HN.out; omega
      clear hp
      go_wp2_with (at_builtin; go_must (refine wp_ape1 w.heap.size rfl (.tmp 12) (.tmp 17) 32 37 (.agg #[.string ByteArray.empty, .string ByteArray.empty]) 2 32 #[.string p.a, .string p.b] rfl Try.underlying32 info37 rfl (by decide) (by decide) u3 k _ rfl rfl rfl (fPr_one _ _) (by exact HK.out.row) HK.out.fr HK.out.fr.size HL.out ?_; intro v1 w1 k1 k2 k3 k4; have FN : Hid (PrR w.heap.size v1 (k + 1) (ps.take (k + 1)) w w1) := (by show PrR _ _ _ _ _ _; rw [take_snoc' HP.out]; exact PrR.snoc k1 k2); clear k1 k2 k3 k4))
      clear f0 f1
      go_roundw
      case rel => exact ⟨k + 1, by omega, by go_num, FN.out⟩
      case measure => simp [intOf] <;> omega
    · have hkm : k = n := by omega
      subst hkm
      have O0 : Hid (PrR w.heap.size u3 (k + 0) (ps ++ List.replicate 0 spare) w wr) := by
        have h := HK.out
        rw [List.take_of_length_le (by rw [L.out]; exact Nat.le_refl _)] at h
        show PrR _ _ _ _ _ _
        simpa using h
      clear HK hlt hk
      go_wp2_with fail
      go_loopw [3, 5] (fun v i wr => ∃ j : Nat, j ≤ 24 ∧ i = .int .i64 (j : Nat) ∧ Hid (PrR w.heap.size v (k + j) (ps ++ List.replicate j spare) w wr)) (fun _ i _ => 24 - (intOf i).toNat)
      case atStart => exact ⟨0, by omega, rfl, O0.out⟩
      case round =>
        obtain ⟨j, hj, rfl, HK⟩ := hrel
        clear O0
        by_cases hlt : j < 24
        · have HL : Hid ((k + j + 1) * 32 ≤ 140737488355328) := by show _ ≤ _; have := HN.out; omega
          go_wp2_with (at_builtin; go_must (refine wp_ape1 w.heap.size rfl (.tmp 23) (.tmp 25) 32 37 (.agg #[.string ByteArray.empty, .string ByteArray.empty]) 2 32 #[.string spare.a, .string spare.b] rfl Try.underlying32 info37 rfl (by decide) (by decide) u3 (k + j) _ rfl rfl rfl (fPr_one _ _) (by exact HK.out.row) HK.out.fr HK.out.fr.size HL.out ?_; intro v1 w1 k1 k2 k3 k4; have FN : Hid (PrR w.heap.size v1 (k + (j + 1)) (ps ++ List.replicate (j + 1) spare) w w1) := (by show PrR _ _ _ _ _ _; rw [List.replicate_succ', ← List.append_assoc]; exact PrR.snoc k1 k2); clear k1 k2 k3 k4))
          go_roundw
          case rel => exact ⟨j + 1, by omega, by go_num, FN.out⟩
          case measure => simp [intOf] <;> omega
        · have hk24 : j = 24 := by omega
          subst hk24
          obtain ⟨g, cap, hv, hc, hg, _, _, _⟩ := own_blk HK.out.row (by omega)
          subst hv
          have hcm : cap ≤ 9223372036854775807 := by
            rcases HK.out.row.2 with ⟨h0, _⟩ | ⟨g', cap', cur, hv, _, _, _, hm, _⟩
            · cases h0
            · injection hv with _ _ e3
              subst e3
              simpa [maxLen] using hm
          have FIN : Hid (PrR w.heap.size (.slice (some ⟨g, 0, none⟩) (k + 24) cap) (k + 24) (marked ps) w wr ∧ w.heap.size ≤ g) := ⟨HK.out, hg⟩
          clear HK hg
          go_wp2_with fail
          go_ret
          exact ⟨g, cap, rfl, hc, hcm, FIN.out⟩
end Go.Proofs.Ythjldlgmfplngaa

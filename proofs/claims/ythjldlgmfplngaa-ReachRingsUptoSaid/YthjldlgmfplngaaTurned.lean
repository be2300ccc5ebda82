/- Walk: pairs with both ends changed about, the last one first. -/
import Derived.Test.YthjldlgmfplngaaTwin
namespace Go.Proofs.Ythjldlgmfplngaa
open Go.RowKit Go.Mm Go.Maps Go.Reach Go.WideMaps
def flip (p : Pr) : Pr := ⟨p.b, p.a⟩
def turned (ps : List Pr) : List Pr := ps.reverse.map flip
theorem turned_len (ps : List Pr) : (turned ps).length = ps.length := by simp [turned]
theorem turned_drop {ps : List Pr} {k : Nat} {p : Pr} (h : ps[k]? = some p) : turned (ps.drop k) = turned (ps.drop (k + 1)) ++ [flip p] := by
  have hk := (List.getElem?_eq_some_iff.1 h)
  obtain ⟨h1, h2⟩ := hk
  rw [List.drop_eq_getElem_cons h1, h2]
  simp [turned]
theorem turned_sz {ps : List Pr} (h : Szs ps) : Szs (turned ps) := by
  constructor <;> intro q hq
  · obtain ⟨p, hp, rfl⟩ := List.mem_map.1 hq
    exact h.b p (List.mem_reverse.1 hp)
  · obtain ⟨p, hp, rfl⟩ := List.mem_map.1 hq
    exact h.a p (List.mem_reverse.1 hp)
def TurnE (ps : List Pr) (w : World) (e : Ending) (w' : World) : Prop := ∃ v, e = .returned v ∧ Hid (PrR w.heap.size v ps.length (turned ps) w w')
set_option maxRecDepth 100000 in
set_option maxHeartbeats 2000000 in
theorem turned_any (A : Option Addr) (n c : Nat) (ps : List Pr) (w : World) (h : Rd w A n 2 (ps.flatMap fPr)) (hl : ps.length = n) (hn : n * 32 ≤ 140737488351232) :
    Calls Try.prog 26 #[.slice A n c] w (TurnE ps w) := by
  have R := Mm.hid h
  have L := Mm.hid hl
  have ST : Hid (PrR w.heap.size (.slice none 0 0) (n - n) (turned (ps.drop n)) w w) := by
    rw [Nat.sub_self, List.drop_of_length_le (by omega)]
    exact ⟨pair_nil w _, Below.refl _ _⟩
  have hn9 : n ≤ 140737488351232 := by omega
  have HN := Mm.hid hn
  clear h hl hn
  go_enter Try.func26, Try.ntmps26
  go_wp2_with fail
  go_loopw [3, 4] (fun v i wr => ∃ k : Nat, k ≤ n ∧ i = .int .i64 ((k : Int) - 1) ∧ Hid (PrR w.heap.size v (n - k) (turned (ps.drop k)) w wr)) (fun _ i _ => (intOf i + 1).toNat)
  case atStart => exact ⟨n, Nat.le_refl _, by go_num, ST.out⟩
  case round =>
    obtain ⟨k, hk, rfl, HK⟩ := hrel
    clear ST
    cases k with
    | zero =>
      have FN : Hid (PrR w.heap.size u3 ps.length (turned ps) w wr) := by
        have h := HK.out
        rw [List.drop_zero, Nat.sub_zero] at h
        rw [L.out]; exact h
      have e0 : ((0 : Nat) : Int) - 1 = -1 := by omega
      rw [e0]
      clear e0
      go_wp2_with fail
      go_ret
      exact ⟨_, rfl, FN.out⟩
    | succ k =>
      have e1 : ((k + 1 : Nat) : Int) - 1 = (k : Int) := by omega
      rw [e1]
      clear e1
      obtain ⟨p, hp⟩ : ∃ p, ps[k]? = some p := ⟨_, List.getElem?_eq_getElem (by rw [L.out]; omega)⟩
      obtain ⟨ad, rfl, hb, f0, f1⟩ := rd_pr (R.out.below HK.out.fr) L.out hp
      have HP := Mm.hid hp
      have HL : Hid ((n - (k + 1) + 1) * 32 ≤ 140737488355328) := by show _ ≤ _; have := HN.out; omega
      obtain ⟨W, hW⟩ : ∃ W, (wr.alloc (.cells #[.string p.b, .string p.a] 37)).drew = W := ⟨_, rfl⟩
      have BX : Hid (Blk W wr.heap.size 37 #[.string p.b, .string p.a]) := by show Blk _ _ _ _; rw [← hW]; exact (Blk.new wr _ _).keep rfl
      have B6 : Hid (Below wr.heap.size wr W) := by show Below _ _ _; rw [← hW]; exact ((Below.refl _ _).alloc (Nat.le_refl _) _).drew
      have R6 : Hid (W.ownsRow w.heap.size 37 2 u3 (n - (k + 1)) ((turned (ps.drop (k + 1))).flatMap fPr)) := (Fr.of_below B6.out).own HK.out.row fun _ _ h => h
      have SZ : Hid (w.heap.size ≤ W.heap.size) := Nat.le_trans HK.out.fr.size B6.out.size
      have BW : Hid (Below w.heap.size w W) := HK.out.fr.trans (B6.out.mono HK.out.fr.size)
      have HW := Mm.hid hW
      have hkn : k < n := by omega
      clear hp hW hb
      go_wp2_with fail
      go_region_law ((rw [HW.out]; refine step_ape1 w.heap.size rfl (.tmp 12) (.tmp 24) 32 37 (.agg #[.string ByteArray.empty, .string ByteArray.empty]) 2 32 #[.string p.b, .string p.a] wr.heap.size rfl Try.underlying32 info37 rfl (by decide) (by decide) u3 (n - (k + 1)) _ rfl rfl BX.out rfl (fPr_one _ _) R6.out SZ.out HL.out ?_; intro v1 wa k1 k3 k4; have K1 := Mm.hid k1; have K3 := Mm.hid k3; clear k1 k3 k4))
      all_goals (
        have FN : Hid (PrR w.heap.size v1 (n - k) (turned (ps.drop k)) w wa) := by
          show PrR _ _ _ _ _ _
          rw [turned_drop HP.out, show n - k = n - (k + 1) + 1 from by omega]
          exact PrR.snoc (p := flip p) K1.out (BW.out.grown K3.out SZ.out fun j hj => (own_lt R6.out hj).1)
        clear f0 f1
        go_wp2_with fail
        go_roundw
        case rel => exact ⟨k, by omega, by go_num, FN.out⟩
        case measure => simp [intOf] <;> omega)
end Go.Proofs.Ythjldlgmfplngaa

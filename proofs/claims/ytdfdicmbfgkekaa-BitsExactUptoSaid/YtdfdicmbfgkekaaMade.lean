/- Walks: a set made of a list; what a set tells; how many are true. -/
import Derived.Test.YtdfdicmbfgkekaaFixed
namespace Go.Proofs.Ytdfdicmbfgkekaa
open Go.RowKit Go.Mm Go.Bs
theorem info4 : (Try.prog.info? 4).map (fun i => (i.zero, i.size, i.bytes)) = some (some (.bool false), 1, 1) := by kernel_rfl
theorem info3 : (Try.prog.info? 3).map (fun i => (i.zero, i.size, i.bytes)) = some (some (.int .i64 0), 1, 8) := by kernel_rfl
/-- put in one by one -/
def addAll (r : Nat) (S : Nat → Bool) (xs : List Int) : Nat → Bool := xs.foldl (addS r) S
theorem addAll_snoc (r : Nat) (S : Nat → Bool) (xs : List Int) (x : Int) : addAll r S (xs ++ [x]) = addS r (addAll r S xs) x := by simp [addAll]
def MadeEnds (r : Nat) (S : Nat → Bool) (w : World) (e : Ending) (w' : World) : Prop := ∃ a g : Nat, e = .returned (.pointer (some ⟨a, 0, none⟩)) ∧ Hid (SetB w' a g r S ∧ Below w.heap.size w w' ∧ w.heap.size ≤ a ∧ w.heap.size ≤ g)
theorem take_snoc {xs : List Int} {k : Nat} {x : Int} (h : xs[k]? = some x) : xs.take k ++ [x] = xs.take (k + 1) := by rw [List.take_add_one, h]; rfl
set_option maxHeartbeats 1000000 in
theorem made_any (room : Int) (A : Option Addr) (n c : Nat) (xs : List Int) (w : World) (hr : -9223372036854775808 ≤ room ∧ room ≤ 9223372036854775807) (h : Rd w A n 1 (iL xs)) (hl : xs.length = n) (hn : n ≤ 17592186043904) (hc : n ≤ c) :
    Calls Try.prog 9 #[.int .i64 room, .slice A n c] w (MadeEnds (roomOf room) (addAll (roomOf room) none0 xs) w) := by
  have R := Mm.hid h
  have L := Mm.hid hl
  obtain ⟨hr1, hr2⟩ := hr
  obtain ⟨r, hrr⟩ : ∃ r, roomOf room = r := ⟨_, rfl⟩
  rw [hrr]
  have HR := Mm.hid hrr
  clear h hl hrr
  go_enter Try.func9, Try.ntmps9
  go_wp2_with fail
  refine (new_any room _ hr2 hr1).mono ?_
  rintro e w1 ⟨a, g, rfl, H1⟩
  rw [HR.out] at H1
  go_wp2_with fail
  go_loopw [6] (fun i wr => ∃ k : Nat, k ≤ n ∧ i = .int .i64 (k : Nat) ∧ Hid (SetB wr a g r (addAll r none0 (xs.take k)) ∧ Fr (· = g) w1 wr)) (fun i _ => n - (intOf i).toNat)
  case atStart => exact ⟨0, Nat.zero_le _, rfl, H1.out.1, Fr.refl _ _⟩
  case round =>
    obtain ⟨k, hk, rfl, HK⟩ := hrel
    by_cases hlt : k < n
    · have hx : ∃ x, xs[k]? = some x := ⟨_, List.getElem?_eq_getElem (by have := L.out; omega)⟩
      obtain ⟨x, hx⟩ := hx
      obtain ⟨ad, hA, had, hcell⟩ := R.out.cell (iL_get hx)
      subst hA
      have hg := H1.out.2.2.2
      have hc1 : w1.cell? (ad.add k) = some (.int .i64 x) := H1.out.2.1.cell (by rw [add_block]; exact had) |>.trans hcell
      have ck : wr.cell? (ad.add k) = some (.int .i64 x) := HK.out.2.cell hc1 (fun (e : (ad.add k).block = g) => by rw [add_block] at e; omega)
      have HS := Mm.hid (addAll_snoc r none0 (xs.take k) x)
      have HT := Mm.hid (take_snoc hx)
      clear hx hc1 hcell
      go_wp2_with fail
      refine (add_any a g r _ x _ HK.out.1).mono ?_
      rintro e w2 ⟨rfl, s2, f2, -⟩
      rw [← HS.out, HT.out] at s2
      have H2 : Hid (SetB w2 a g r (addAll r none0 (xs.take (k + 1))) ∧ Fr (· = g) w1 w2) := ⟨s2, HK.out.2.trans f2 fun _ _ h => h⟩
      clear s2 f2 ck
      go_wp2
      go_roundw
      case rel => exact ⟨k + 1, by omega, by go_num, H2.out⟩
      case measure => simp [intOf]; omega
    · have hkn : k = n := by omega
      subst hkn
      have FIN : Hid (SetB wr a g r (addAll r none0 xs) ∧ Below w.heap.size w wr ∧ w.heap.size ≤ a ∧ w.heap.size ≤ g) := by
        obtain ⟨h1, h2⟩ := HK.out
        rw [List.take_of_length_le (by rw [L.out]; exact Nat.le_refl _)] at h1
        exact ⟨h1, H1.out.2.1.trans (h2.below (fun k (e : k = g) => e ▸ H1.out.2.2.2) H1.out.2.1.size), H1.out.2.2⟩
      go_wp2
      go_ret
      exact ⟨a, g, rfl, FIN.out⟩
/-! ### what it tells -/
def bL (l : List Bool) : List Value := l.map Value.bool
theorem bL_snoc (l : List Bool) (b : Bool) : bL l ++ [.bool b] = bL (l ++ [b]) := by simp [bL]
theorem bL_get {l : List Bool} {j : Nat} {x : Bool} (h : l[j]? = some x) : (bL l)[j]? = some (.bool x) := by simp [bL, h]
/-- the first k of what a set tells, from -1 on -/
def toldL (r : Nat) (S : Nat → Bool) (k : Nat) : List Bool := (List.range k).map fun i : Nat => hasB r S ((i : Int) - 1)
theorem toldL_len (r : Nat) (S : Nat → Bool) (k : Nat) : (toldL r S k).length = k := by simp [toldL]
theorem toldL_snoc (r : Nat) (S : Nat → Bool) (k : Nat) : toldL r S k ++ [hasB r S ((k : Int) - 1)] = toldL r S (k + 1) := by simp [toldL, List.range_succ]
theorem toldL_get (r : Nat) (S : Nat → Bool) {n k : Nat} (h : k < n) : (toldL r S n)[k]? = some (hasB r S ((k : Int) - 1)) := by simp [toldL, h]
def ToldEnds (r : Nat) (S : Nat → Bool) (w : World) (e : Ending) (w' : World) : Prop := ∃ A c, e = .returned (.slice A (r + 2) c) ∧ r + 2 ≤ c ∧ Hid (w'.ownsRow w.heap.size 4 1 (.slice A (r + 2) c) (r + 2) (bL (toldL r S (r + 2))) ∧ Below w.heap.size w w')
set_option maxHeartbeats 1000000 in
theorem told_any (a g r : Nat) (S : Nat → Bool) (w : World) (h : SetB w a g r S) : Calls Try.prog 11 #[.pointer (some ⟨a, 0, none⟩)] w (ToldEnds r S w) := by
  have H := Mm.hid h
  have hm := h.most
  have nil : w.ownsRow w.heap.size 4 1 (.slice none 0 0) 0 (bL (toldL r S 0)) := ⟨by simp [bL, toldL], .inl ⟨rfl, rfl⟩⟩
  have NIL := Mm.hid nil
  clear nil h
  go_enter Try.func11, Try.ntmps11
  go_wp2_with fail
  go_loopw [3, 4] (fun v i wr => ∃ k : Nat, k ≤ r + 2 ∧ i = .int .i64 ((k : Int) - 1) ∧ Hid (wr.ownsRow w.heap.size 4 1 v k (bL (toldL r S k)) ∧ Below w.heap.size w wr)) (fun _ i _ => r + 2 - (intOf i + 1).toNat)
  case atStart => exact ⟨0, by omega, rfl, NIL.out, Below.refl _ _⟩
  case round =>
    obtain ⟨k, hk, rfl, HK⟩ := hrel
    have hsz := HK.out.2.size
    have HS := Mm.hid (H.out.below HK.out.2)
    by_cases hlt : k < r + 2
    · obtain ⟨b, hb⟩ : ∃ b, hasB r S ((k : Int) - 1) = b := ⟨_, rfl⟩
      have HBX := Mm.hid hb
      have HSN := Mm.hid (toldL_snoc r S k)
      clear hb
      go_wp2_with fail
      refine (room_any a g r S _ HS.out).mono ?_
      rintro e w' ⟨rfl, rfl⟩
      go_wp2_with fail
      refine (has_any a g r S _ _ HS.out).mono ?_
      rintro e w' ⟨rfl, rfl⟩
      rw [HBX.out]
      have hone : ∀ u ∈ (#[Value.bool b] : Array Value).toList, u.oneCell' = true := by simp; rfl
      have HO := Mm.hid hone
      clear hone
      go_wp2_with (at_builtin; go_must (refine wp_ape1 w.heap.size rfl (.tmp 11) (.tmp 15) 27 4 (.bool false) 1 1 #[.bool b] rfl Try.underlying27 info4 rfl (by decide) (by decide) u3 k _ rfl rfl rfl HO.out (by exact HK.out.1) HK.out.2 hsz (by omega) ?_))
      intro v1 w1 k1 k2 k3 k4
      have FN : Hid (w1.ownsRow w.heap.size 4 1 v1 (k + 1) (bL (toldL r S (k + 1))) ∧ Below w.heap.size w w1) := by
        refine ⟨?_, k2⟩
        rw [← HSN.out, HBX.out, ← bL_snoc]
        exact k1
      clear k1 k2 k3 k4
      go_wp2
      go_roundw
      case rel => exact ⟨k + 1, by omega, by go_num, FN.out⟩
      case measure => simp [intOf] <;> omega
    · have hkn : k = r + 2 := by omega
      subst hkn
      obtain ⟨A, c, hv, hc, _, _⟩ := own_slice HK.out.1
      subst hv
      go_wp2_with fail
      refine (room_any a g r S _ HS.out).mono ?_
      rintro e w' ⟨rfl, rfl⟩
      go_wp2
      go_ret
      exact ⟨A, c, rfl, hc, HK.out⟩
/-- how many are true -/
def tr (l : List Bool) : Nat := (l.filter id).length
theorem tr_snoc (l : List Bool) (b : Bool) : tr (l ++ [b]) = tr l + (if b then 1 else 0) := by
  unfold tr; rw [List.filter_append]; cases b <;> simp
theorem tr_le (l : List Bool) : tr l ≤ l.length := List.length_filter_le _ _
theorem trues_any (A : Option Addr) (n c : Nat) (l : List Bool) (w : World) (h : Rd w A n 1 (bL l)) (hl : l.length = n) (hn : n ≤ 1048576) :
    Calls Try.prog 16 #[.slice A n c] w fun e w' => e = .returned (.int .i64 (tr l : Nat)) ∧ w = w' := by
  have R := Mm.hid h
  have L := Mm.hid hl
  clear h hl
  go_enter Try.func16, Try.ntmps16
  go_wp2_with fail
  go_loop [3, 4] (fun s i => ∃ k : Nat, k ≤ n ∧ i = .int .i64 (k : Nat) ∧ s = .int .i64 (tr (l.take k) : Nat)) (fun _ i => n - (intOf i).toNat)
  case atStart => exact ⟨0, by omega, rfl, rfl⟩
  case round =>
    obtain ⟨k, hk, rfl, rfl⟩ := hrel
    have hle : tr (l.take k) ≤ k := Nat.le_trans (tr_le _) (List.length_take_le _ _)
    by_cases hlt : k < n
    · have hx : ∃ x, l[k]? = some x := ⟨_, List.getElem?_eq_getElem (by have := L.out; omega)⟩
      obtain ⟨x, hx⟩ := hx
      obtain ⟨ad, hA, had, hcell⟩ := R.out.cell (bL_get hx)
      subst hA
      have HT : Hid (tr (l.take (k + 1)) = tr (l.take k) + (if x then 1 else 0)) := by
        show _ = _
        rw [List.take_add_one, hx, ← tr_snoc]; rfl
      clear hx
      cases x
      · have HT' : Hid (tr (l.take (k + 1)) = tr (l.take k)) := HT.out
        go_wp2
        go_round
        case rel => exact ⟨k + 1, by omega, by go_num, by rw [HT'.out]⟩
        case measure => simp [intOf]; omega
      · have HT' : Hid (tr (l.take (k + 1)) = tr (l.take k) + 1) := HT.out
        go_wp2
        go_round
        case rel => exact ⟨k + 1, by omega, by go_num, by rw [HT'.out]; go_num⟩
        case measure => simp [intOf]; omega
    · have hkn : k = n := by omega
      subst hkn
      go_wp2
      go_ret
      exact ⟨ret_i64 (by rw [List.take_of_length_le (by rw [L.out]; exact Nat.le_refl _)]), rfl⟩
end Go.Proofs.Ytdfdicmbfgkekaa

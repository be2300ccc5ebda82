/- Walks: does a name stand in a list? -/
import Derived.Test.YthjldlgmfplngaaUp
import Derived.Laws.Strings
namespace Go.Reach
variable {α : Type} [DecidableEq α]
def isIn (l : List α) (x : α) : Bool := decide (x ∈ l)
theorem isIn_true {l : List α} {x : α} (h : x ∈ l) : isIn l x = true := decide_eq_true h
theorem isIn_false {l : List α} {x : α} (h : x ∉ l) : isIn l x = false := decide_eq_false h
theorem isIn_iff {l : List α} {x : α} : isIn l x = true ↔ x ∈ l := decide_eq_true_iff
end Go.Reach
namespace Go.Proofs.Ythjldlgmfplngaa
open Go.RowKit Go.Mm Go.Maps Go.Reach Go.WideMaps
theorem str_same (x : ByteArray) : (x.toList == x.toList) = true := by simp
theorem str_ne {x y : ByteArray} (h : x ≠ y) : (x.toList == y.toList) = false := by
  refine beq_eq_false_iff_ne.2 fun e => h ?_
  rw [ByteArray.toList_eq, ByteArray.toList_eq] at e
  exact ByteArray.ext (Array.toList_inj.mp e)
theorem not_in_snoc {α : Type} {l : List α} {k : Nat} {x y : α} (h : x ∉ l.take k) (hy : l[k]? = some y) (hne : y ≠ x) : x ∉ l.take (k + 1) := by
  rw [take_snoc' hy, List.mem_append, List.mem_singleton]
  rintro (e | e)
  · exact h e
  · exact hne e.symm
set_option maxHeartbeats 1000000 in
theorem has_any (A : Option Addr) (n c : Nat) (l : List ByteArray) (x : ByteArray) (w : World) (h : Rd w A n 1 (strs l)) (hb : n ≤ 4611686018427387904) :
    Calls Try.prog 51 #[.slice A n c, .string x] w fun e w' => e = .returned (.bool (isIn l x)) ∧ w' = w := by
  have l1 : l.length = n := by have := h.1; rw [strs_len] at this; omega
  have R := Mm.hid h
  have L := Mm.hid l1
  clear h l1
  go_enter Try.func51, Try.ntmps51
  go_wp2_with fail
  go_loopw [5] (fun i wr => ∃ k : Nat, k ≤ n ∧ i = .int .i64 (k : Nat) ∧ Hid (x ∉ l.take k) ∧ wr = w) (fun i _ => n - (intOf i).toNat)
  case atStart => exact ⟨0, Nat.zero_le _, rfl, by simp [Hid], rfl⟩
  case round =>
    obtain ⟨k, hk, rfl, HT, hwr⟩ := hrel
    rw [hwr]
    clear hwr
    by_cases hlt : k < n
    · obtain ⟨y, hy⟩ : ∃ y, l[k]? = some y := ⟨_, List.getElem?_eq_getElem (by rw [L.out]; exact hlt)⟩
      obtain ⟨ad, rfl, _, f1⟩ := R.out.cell (strs_get hy)
      have Y := Mm.hid hy
      clear hy
      by_cases hxy : y = x
      · subst hxy
        have hs := str_same y
        have fin : Hid (isIn l y = true) := isIn_true (List.mem_of_getElem? Y.out)
        go_wp2_with fail
        go_ret
        rw [fin.out]
        exact ⟨rfl, rfl⟩
      · have hs := str_ne hxy
        have T := Mm.hid (not_in_snoc HT.out Y.out hxy)
        clear hxy
        go_wp2_with fail
        go_roundw
        case rel => exact ⟨k + 1, by omega, by go_num, T, trivial⟩
        case measure => simp [intOf] <;> omega
    · have hkn : k = n := by omega
      subst hkn
      have fin : Hid (isIn l x = false) := by
        have h := HT.out
        rw [List.take_of_length_le (by rw [L.out]; exact Nat.le_refl _)] at h
        exact isIn_false h
      go_wp2_with fail
      go_ret
      rw [fin.out]
      exact ⟨rfl, rfl⟩
set_option maxHeartbeats 1000000 in
theorem hasl_any (A : Option Addr) (n c : Nat) (l : List ByteArray) (x : ByteArray) (w : World) (h : Rd w A n 1 (strs l)) (hb : n ≤ 4611686018427387904) :
    Calls Try.prog 36 #[.slice A n c, .string x] w fun e w' => e = .returned (.bool (isIn l x)) ∧ w' = w := by
  have l1 : l.length = n := by have := h.1; rw [strs_len] at this; omega
  have R := Mm.hid h
  have L := Mm.hid l1
  clear h l1
  go_enter Try.func36, Try.ntmps36
  go_wp2_with fail
  go_loopw [5] (fun i wr => ∃ k : Nat, k ≤ n ∧ i = .int .i64 (k : Nat) ∧ Hid (x ∉ l.take k) ∧ wr = w) (fun i _ => n - (intOf i).toNat)
  case atStart => exact ⟨0, Nat.zero_le _, rfl, by simp [Hid], rfl⟩
  case round =>
    obtain ⟨k, hk, rfl, HT, hwr⟩ := hrel
    rw [hwr]
    clear hwr
    by_cases hlt : k < n
    · obtain ⟨y, hy⟩ : ∃ y, l[k]? = some y := ⟨_, List.getElem?_eq_getElem (by rw [L.out]; exact hlt)⟩
      obtain ⟨ad, rfl, _, f1⟩ := R.out.cell (strs_get hy)
      have Y := Mm.hid hy
      clear hy
      by_cases hxy : y = x
      · subst hxy
        have hs := str_same y
        have fin : Hid (isIn l y = true) := isIn_true (List.mem_of_getElem? Y.out)
        go_wp2_with fail
        go_ret
        rw [fin.out]
        exact ⟨rfl, rfl⟩
      · have hs := str_ne hxy
        have T := Mm.hid (not_in_snoc HT.out Y.out hxy)
        clear hxy
        go_wp2_with fail
        go_roundw
        case rel => exact ⟨k + 1, by omega, by go_num, T, trivial⟩
        case measure => simp [intOf] <;> omega
    · have hkn : k = n := by omega
      subst hkn
      have fin : Hid (isIn l x = false) := by
        have h := HT.out
        rw [List.take_of_length_le (by rw [L.out]; exact Nat.le_refl _)] at h
        exact isIn_false h
      go_wp2_with fail
      go_ret
      rw [fin.out]
      exact ⟨rfl, rfl⟩
end Go.Proofs.Ythjldlgmfplngaa

/- Keys of two names: arrays and structs as keys of maps. -/
import Derived.Test.YthjldlgmfplngaaLines
import Derived.DeepKeys4
namespace Go.Proofs.Ythjldlgmfplngaa
open Go.RowKit Go.Mm Go.Maps Go.Reach Go.WideMaps
theorem laid : laidOutB Try.prog = true := by kernel_rfl
theorem row42 : 42 < Try.prog.types.size := of_decide_eq_true (by kernel_rfl)
theorem row37 : 37 < Try.prog.types.size := of_decide_eq_true (by kernel_rfl)
theorem law42 : Keyed Try.prog 42 := Keyed.of_law (deep_law_laid laid (m := 4) (by decide) row42 (by kernel_rfl) (by kernel_rfl))
theorem law37 : Keyed Try.prog 37 := Keyed.of_law (deep_law_laid laid (m := 4) (by decide) row37 (by kernel_rfl) (by kernel_rfl))
theorem cells42 : Try.prog.cellsOf 42 = 2 := by kernel_rfl
theorem cells37 : Try.prog.cellsOf 37 = 2 := by kernel_rfl
theorem cells9 : Try.prog.cellsOf 9 = 1 := by kernel_rfl
theorem kt42 : Try.prog.keyType 42 = true := by kernel_rfl
theorem kt37 : Try.prog.keyType 37 = true := by kernel_rfl
theorem size_types : ∃ m, Try.prog.types.size = m + 1 := ⟨Try.prog.types.size - 1, by kernel_rfl⟩
theorem key42 {a b : ByteArray} (ha : a.size ≤ maxLen) (hb : b.size ≤ maxLen) : keyOf Try.prog 42 (.agg #[.string a, .string b]) = some (.string (keyBytes [.string a.data.toList, .string b.data.toList])) := by
  obtain ⟨m, hm⟩ := size_types
  unfold keyOf
  simp only [Try.underlying42]
  rw [if_pos (by simp [kt42, Value.formed, Try.underlying42, cells42]), hm]
  unfold Program.keyLits
  simp only [Try.underlying42, Value.cells]
  rw [if_pos (by rw [cells42]; rfl), show List.range 2 = [0, 1] from rfl, List.mapM_cons, List.mapM_cons, List.mapM_nil]
  simp [cells9, Program.keyLits, Try.underlying9, ha, hb]
theorem key37 {a b : ByteArray} (ha : a.size ≤ maxLen) (hb : b.size ≤ maxLen) : keyOf Try.prog 37 (.agg #[.string a, .string b]) = some (.string (keyBytes [.string a.data.toList, .string b.data.toList])) := by
  obtain ⟨m, hm⟩ := size_types
  unfold keyOf
  simp only [Try.underlying37]
  rw [if_pos (by simp [kt37, Value.formed, Try.underlying37, cells37]), hm]
  unfold Program.keyLits
  simp only [Try.underlying37, Value.cells]
  rw [if_pos (by rw [cells37]; exact ⟨rfl, by simp⟩)]
  simp [cells9, Program.keyLits, Try.underlying9, ha, hb]
/-- any bytes as a number -/
def encL : List UInt8 → Nat
  | [] => 0
  | b :: l => b.toNat + 1 + 256 * encL l
theorem encL_inj : ∀ l m : List UInt8, encL l = encL m → l = m
  | [], [], _ => rfl
  | [], b :: m, h => by simp only [encL] at h; omega
  | b :: l, [], h => by simp only [encL] at h; omega
  | b :: l, c :: m, h => by
    simp only [encL] at h
    have h1 := b.toNat_lt
    have h2 := c.toNat_lt
    have e1 : b.toNat = c.toNat := by omega
    have e2 : encL l = encL m := by omega
    rw [encL_inj l m e2, UInt8.toNat_inj.1 e1]
/-- a name as a key of two names -/
def κ2 (g : ByteArray → ByteArray) (x : ByteArray) : Lit := if x.size ≤ maxLen then .string (keyBytes [.string x.data.toList, .string (g x).data.toList]) else .int .i64 (encL x.data.toList)
theorem κ2_lit (g : ByteArray → ByteArray) (x : ByteArray) : WideAt.IsKeyLit (κ2 g x) := by
  unfold κ2; split <;> simp [WideAt.IsKeyLit]
theorem κ2_inj (g : ByteArray → ByteArray) (hg : ∀ x : ByteArray, x.size ≤ maxLen → (g x).size ≤ maxLen) (x y : ByteArray) (h : κ2 g x = κ2 g y) : x = y := by
  unfold κ2 at h
  split at h
  · rename_i hx
    split at h
    · rename_i hy
      have h1 := key42 hx (hg x hx)
      have h2 := key42 hy (hg y hy)
      rw [h] at h1
      have := law42.inj h1 h2
      simp at this
      exact this.1
    · cases h
  · split at h
    · cases h
    · injection h with _ h
      have := encL_inj _ _ (Int.ofNat.inj h)
      cases x; cases y
      simp at this
      subst this; rfl
theorem κ2_42 (g : ByteArray → ByteArray) (hg : ∀ x : ByteArray, x.size ≤ maxLen → (g x).size ≤ maxLen) {x : ByteArray} (hx : x.size ≤ maxLen) : keyOf Try.prog 42 (.agg #[.string x, .string (g x)]) = some (κ2 g x) := by
  unfold κ2
  rw [if_pos hx, key42 hx (hg x hx)]
theorem κ2_37 (g : ByteArray → ByteArray) (hg : ∀ x : ByteArray, x.size ≤ maxLen → (g x).size ≤ maxLen) {x : ByteArray} (hx : x.size ≤ maxLen) : keyOf Try.prog 37 (.agg #[.string x, .string (g x)]) = some (κ2 g x) := by
  unfold κ2
  rw [if_pos hx, key37 hx (hg x hx)]
/-- the second name of an array, of a struct -/
def gE (_ : ByteArray) : ByteArray := { data := #[48] }
def gP (x : ByteArray) : ByteArray := x
theorem gE_sz : ∀ x : ByteArray, x.size ≤ maxLen → (gE x).size ≤ maxLen := fun _ _ => by show 1 ≤ maxLen; unfold maxLen; omega
theorem gP_sz : ∀ x : ByteArray, x.size ≤ maxLen → (gP x).size ≤ maxLen := fun _ h => h
/-- things of two names, each by its first -/
def r2 (g : ByteArray → ByteArray) (l : List ByteArray) : List Value := (l.map fun x => (⟨x, g x⟩ : Pr)).flatMap fPr
theorem r2_at (g : ByteArray → ByteArray) {l : List ByteArray} {j : Nat} {x : ByteArray} (h : l[j]? = some x) : (l.map fun x => (⟨x, g x⟩ : Pr))[j]? = some ⟨x, g x⟩ := by simp [h]
theorem r2_snoc (g : ByteArray → ByteArray) (l : List ByteArray) (x : ByteArray) : r2 g l ++ [.string x, .string (g x)] = r2 g (l ++ [x]) := by simp [r2, fPr]
theorem r2_len (g : ByteArray → ByteArray) (l : List ByteArray) : (r2 g l).length = l.length * 2 := by
  unfold r2
  rw [length_flatMap fPr_len, List.length_map]
end Go.Proofs.Ythjldlgmfplngaa

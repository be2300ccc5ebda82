/- Walk: leads. -/
import Derived.Test.YthjldlgmfplngaaThroughLaw
import Derived.Test.YthjldlgmfplngaaKos
import Derived.Deep.RegionHeld3
namespace Go.Proofs.Ythjldlgmfplngaa
open Go.RowKit Go.Mm Go.Maps Go.Reach Go.WideMaps
theorem fy_alloc {w w1 : World} (h : Fr (fun _ => False) w w1) (o : Obj) : Fr (fun _ => False) w (w1.alloc o) := h.trans (Fr.alloc (fun _ => False) w1 o) fun _ _ h => h
theorem fy_drew {w w1 : World} (h : Fr (fun _ => False) w w1) : Fr (fun _ => False) w w1.drew := h.trans (Fr.drew (fun _ => False) w1) fun _ _ h => h
theorem fy_drewN {w w1 : World} (h : Fr (fun _ => False) w w1) (n : Nat) : Fr (fun _ => False) w (w1.drewN n) := h.trans (Fr.drewN (fun _ => False) w1 n) fun _ _ h => h
/-- whether a name leads to another one is told -/
def LedE (ps : List Pr) (x y : ByteArray) (w : World) (e : Ending) (w' : World) : Prop := ∃ r : Bool, e = .returned (.bool r) ∧ Hid ((r = true ↔ Lead ps x y) ∧ Fr (fun _ => False) w w')
set_option maxRecDepth 100000 in
set_option maxHeartbeats 2000000 in
theorem leads_any (ps : List Pr) (A : Option Addr) (N c : Nat) (x y : ByteArray) (w : World) (hr : Rd w A N 2 (ps.flatMap fPr)) (hN : ps.length = N) (hs : Szs ps) (hy : y.size ≤ maxLen) (hl : N * 32 ≤ 140737488351232) :
    Calls Try.prog 39 #[.slice A N c, .string x, .string y] w (LedE ps x y w) := by
  have R := Mm.hid hr
  have HN := Mm.hid hN
  have HR := Mm.hid hl
  have HL : Hid (N * 32 + 16 ≤ 140737488355328) := by show _ ≤ _; omega
  have hN9 : N ≤ 4398046511104 := by omega
  have HS := Mm.hid hs
  have HY := Mm.hid hy
  clear hr hN hs hy hl
  go_enter Try.func39, Try.ntmps39
  go_wp2_with fail
  go_loopw [7] (fun iv wr => ∃ k : Nat, k ≤ N ∧ iv = .int .i64 (k : Nat) ∧ Hid (∀ p ∈ ps.take k, p.a = x → y ∉ upL ps p.b) ∧ Hid (Fr (fun _ => False) w wr)) (fun iv _ => N - (intOf iv).toNat)
  case atStart => exact ⟨0, Nat.zero_le _, rfl, fun p hp => by simp at hp, Fr.refl _ _⟩
  case round =>
    obtain ⟨k, hk, rfl, HT, HF⟩ := hrel
    by_cases hlt : k < N
    · obtain ⟨p, hp⟩ : ∃ p, ps[k]? = some p := ⟨_, List.getElem?_eq_getElem (by rw [HN.out]; exact hlt)⟩
      obtain ⟨ada, rfl, _, t1, t2⟩ := rd_pr (HF.out.rd R.out fun _ _ h => h) HN.out hp
      have hpm := List.mem_of_getElem? hp
      have HPB := Mm.hid (HS.out.b p hpm)
      have NT : ∀ q : Prop, (q → y ∉ upL ps p.b) → (p.a = x → q) → Hid (∀ p ∈ ps.take (k + 1), p.a = x → y ∉ upL ps p.b) := fun q h1 h2 => by
        intro p' hp' he
        rw [take_snoc' hp, List.mem_append, List.mem_singleton] at hp'
        rcases hp' with hp' | hp'
        · exact HT.out p' hp' he
        · subst hp'
          exact h1 (h2 he)
      have NT' := Mm.hid NT
      have YES : Hid (p.a = x → y ∈ upL ps p.b → Lead ps x y) := fun h1 h2 => ⟨p, hpm, h1, h2⟩
      clear NT hp hpm
      by_cases hx : p.a = x
      · have hs1 : ((p.a).toList == x.toList) = true := by rw [hx]; exact str_same x
        have RW := Mm.hid (HF.out.rd R.out fun _ _ h => h)
        have F5 := Mm.hid (Fr.refl (fun _ => False) wr)
        have HXE := Mm.hid hx
        clear hx
        go_wp2_with fail
        go_region_held3 (fun w' => w'.cell? (ada.add (k * 2)) = some (.string p.a) ∧ w'.cell? ⟨(ada.add (k * 2)).block, (ada.add (k * 2)).off + 1, none⟩ = some (.string p.b)) (go_keep)
          (first
            | (go_at_call 27; refine (twin_any _ _ _ ps _ (Fr.rd (by with_reducible repeat (first | exact F5.out | apply fy_drewN | apply fy_drew | apply fy_alloc)) RW.out fun _ _ h => h) HN.out HR.out).mono ?_; rintro e wt ⟨gt, kt, rfl, hkt, hlt', PM⟩; have FT : Hid (Fr (fun _ => False) wr wt) := Mm.hid (Fr.trans (by with_reducible repeat (first | exact F5.out | apply fy_drewN | apply fy_drew | apply fy_alloc)) (Fr.of_below PM.out.1.fr) fun _ _ h => h); have RT := Mm.hid (mine_rd PM.out.1.row HN.out); have FT0 := Mm.hid (Fr.refl (fun _ => False) wt); have y1 : wt.cell? (ada.add (k * 2)) = some (.string p.a) := FT.out.cell t1 (fun h => h); have y2 : wt.cell? ⟨(ada.add (k * 2)).block, (ada.add (k * 2)).off + 1, none⟩ = some (.string p.b) := FT.out.cell t2 (fun h => h); clear PM)
            | (go_at_call 32; refine (path_row ps p.b y _ _ _ _ (Fr.rd (by with_reducible repeat (first | exact FT0.out | apply fy_drewN | apply fy_drew | apply fy_alloc)) RT.out fun _ _ h => h) HN.out HS.out HPB.out HY.out HL.out).mono ?_; rintro e wp ⟨A5, m5, c5, rfl, hm5, O⟩; have FP : Hid (Fr (fun _ => False) wr wp) := Mm.hid (Fr.trans (by with_reducible repeat (first | exact FT.out | apply fy_drewN | apply fy_drew | apply fy_alloc)) (Fr.of_below O.out.2.2) fun _ _ h => h); have E5 := Mm.hid O.out.1; have z1 : wp.cell? (ada.add (k * 2)) = some (.string p.a) := FP.out.cell t1 (fun h => h); have z2 : wp.cell? ⟨(ada.add (k * 2)).block, (ada.add (k * 2)).off + 1, none⟩ = some (.string p.b) := FP.out.cell t2 (fun h => h); clear O))
        have NX : Hid (Fr (fun _ => False) w wp) := HF.out.trans FP.out fun _ _ h => h
        clear y1 y2 z1 z2 t1 t2
        by_cases h0 : m5 = 0
        · subst h0
          have HNX := NT'.out (p.a = x) (fun _ h => by
            have h1 := pathL_iff.2 h
            have h2 := E5.out
            omega) id
          clear NT' HT YES
          go_wp2_with fail
          go_roundw
          case rel => exact ⟨k + 1, by omega, by go_num, HNX, NX⟩
          case measure => simp [intOf] <;> omega
        · have z5 : (0 : Int) < (m5 : Int) := by omega
          have fin : Hid (Lead ps x y) := YES.out HXE.out (pathL_iff.1 (by rw [E5.out]; omega))
          clear NT' HT YES h0
          go_wp2_with fail
          go_ret
          exact ⟨true, rfl, ⟨fun _ => fin.out, fun _ => rfl⟩, NX.out⟩
      · have hs1 := str_ne hx
        have NX : Hid (∀ n, Fr (fun _ => False) w (wr.drewN n)) := fun n => HF.out.trans (Fr.drewN (fun _ => False) wr n) fun _ _ h => h
        have HNX := NT'.out (p.a = x) (fun h => absurd h hx) id
        clear hx NT' HT YES
        go_wp2_with fail
        go_quiet (fail)
        go_wp2_with fail
        go_roundw
        case rel => exact ⟨k + 1, by omega, by go_num, HNX, NX.out _⟩
        case measure => simp [intOf] <;> omega
    · have hkn : N = k := by omega
      subst hkn
      have fin : Hid ((false = true ↔ Lead ps x y) ∧ Fr (fun _ => False) w wr) := by
        refine ⟨⟨fun h => Bool.noConfusion h, fun h => ?_⟩, HF.out⟩
        obtain ⟨p, hp, he, hm⟩ := h
        exact absurd hm (HT.out p (by rw [List.take_of_length_le (by rw [HN.out]; exact Nat.le_refl _)]; exact hp) he)
      go_wp2_with fail
      go_ret
      exact ⟨false, rfl, fin⟩
end Go.Proofs.Ythjldlgmfplngaa

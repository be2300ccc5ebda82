/- Walks: the document's set joined, met, taken from. -/
import Derived.Test.YtdfdicmbfgkekaaFold
namespace Go.Proofs.Ytdfdicmbfgkekaa
open Go.RowKit Go.Mm Go.Bs
def RJoinEnds (lo hi b r : Nat) (p : (Nat → Bool) × Bool) (w : World) (e : Ending) (w' : World) : Prop := e = .returned (.bool p.2) ∧ RefB lo hi w' b r p.1 ∧ Fr (fun k => lo ≤ k ∧ k < hi) w w'
theorem toI_get {l : List Nat} {j x : Nat} (h : l[j]? = some x) : (iL (toI l))[j]? = some (.int .i64 (x : Int)) := iL_get (by simp [toI, h])
theorem foldl_take {α β : Type} (f : α → β → α) (p : α) {l : List β} {k : Nat} {x : β} (h : l[k]? = some x) : (l.take (k + 1)).foldl f p = f ((l.take k).foldl f p) x := by
  rw [List.take_add_one, h]; simp
set_option maxRecDepth 100000 in
set_option maxHeartbeats 2000000 in
theorem rjoin_fold (lo hi b r : Nat) (S T : Nat → Bool) (q : Option Addr) (l : List Nat) (w : World) (h : RefB lo hi w b r S) (ho : ROther w q T l) : Calls Try.prog 56 #[.pointer (some ⟨b, 0, none⟩), .pointer q] w (RJoinEnds lo hi b r (l.foldl (jn r) (S, false)) w) := by
  have H := Mm.hid h
  have HO := Mm.hid ho
  clear h ho
  go_enter Try.func56, Try.ntmps56
  go_wp2_with fail
  refine (held_any q T l _ HO.out).mono ?_
  rintro e w1 ⟨A, n, c, rfl, hc, hn, H1⟩
  have B1 := Mm.hid (H.out.below H1.out.2.2.1)
  have hi1 := H.out.top
  go_wp2_with fail
  go_loopw [6, 7] (fun ch i wr => ∃ k : Nat, k ≤ n ∧ i = .int .i64 (k : Nat) ∧ ch = .bool ((l.take k).foldl (jn r) (S, false)).2 ∧ Hid (RefB lo hi wr b r ((l.take k).foldl (jn r) (S, false)).1 ∧ Fr (fun k => lo ≤ k ∧ k < hi) w1 wr)) (fun _ i _ => n - (intOf i).toNat)
  case atStart => exact ⟨0, by omega, rfl, rfl, B1.out, Fr.refl _ _⟩
  case round =>
    obtain ⟨k, hk, rfl, rfl, HK⟩ := hrel
    by_cases hlt : k < n
    · obtain ⟨x, hx⟩ : ∃ x, l[k]? = some x := ⟨_, List.getElem?_eq_getElem (by have := H1.out.1; omega)⟩
      have HF := Mm.hid (foldl_take (jn r) (S, false) hx)
      have hrd : Rd wr A n 1 (iL (toI l)) := HK.out.2.rd H1.out.2.1 (fun ad hA (e : lo ≤ ad.block ∧ ad.block < hi) => by have := H1.out.2.2.2 ad hA; omega)
      obtain ⟨ad, hA, had, hcell⟩ := hrd.cell (toI_get hx)
      subst hA
      obtain ⟨P, fl, hP⟩ : ∃ P fl, (l.take k).foldl (jn r) (S, false) = (P, fl) := ⟨_, _, rfl⟩
      rw [hP] at HF HK
      rw [hP]
      clear hx hrd hP
      go_wp2_with fail
      refine (radd_any lo hi b r P (x : Int) _ HK.out.1).mono ?_
      rintro e w2 ⟨rfl, s2, f2, -⟩
      obtain ⟨b2, hb2⟩ : ∃ b2, addB r P x = b2 := ⟨_, rfl⟩
      have FN : Hid ((l.take (k + 1)).foldl (jn r) (S, false) = (_, fl || b2) ∧ RefB lo hi w2 b r ((l.take (k + 1)).foldl (jn r) (S, false)).1 ∧ Fr (fun k => lo ≤ k ∧ k < hi) w1 w2) := Mm.hid ⟨by rw [HF.out, ← hb2]; rfl, by rw [HF.out]; exact s2, HK.out.2.trans f2 fun _ _ h => h⟩
      rw [hb2]
      clear s2 f2 hb2
      cases fl
      · go_wp2
        go_roundw
        case rel => exact ⟨k + 1, by omega, by go_num, by rw [FN.out.1]; simp, FN.out.2⟩
        case measure => simp [intOf]; omega
      · go_wp2
        go_roundw
        case rel => exact ⟨k + 1, by omega, by go_num, by rw [FN.out.1]; simp, FN.out.2⟩
        case measure => simp [intOf]; omega
    · have hkn : k = n := by omega
      subst hkn
      have FIN : Hid (RJoinEnds lo hi b r (l.foldl (jn r) (S, false)) w (.returned (.bool ((l.take k).foldl (jn r) (S, false)).2)) wr) := by
        have h := HK.out
        rw [List.take_of_length_le (by rw [H1.out.1]; exact Nat.le_refl _)] at h ⊢
        exact Mm.hid ⟨rfl, h.1, ((Fr.of_below H1.out.2.2.1).mono (fun _ h => h.elim)).trans h.2 fun _ _ h => h⟩
      go_wp2
      go_ret
      exact FIN.out
theorem rjoin_any (lo hi b r : Nat) (S T : Nat → Bool) (q : Option Addr) (l : List Nat) (w : World) (h : RefB lo hi w b r S) (ho : ROther w q T l) : Calls Try.prog 56 #[.pointer (some ⟨b, 0, none⟩), .pointer q] w (RJoinEnds lo hi b r (cup S (cap T (full r)), chg (cup S (cap T (full r))) S (nw r)) w) := by
  have := rjoin_fold lo hi b r S T q l w h ho
  rcases ho with ⟨_, rfl, rfl⟩ | ⟨lo', hi', b', r', _, h', rfl⟩
  · rw [show ([] : List Nat) = ml none0 0 from rfl, joined r 0 S none0 h.rest fun _ _ => rfl] at this
    exact this
  · rw [joined r r' S T h.rest h'.rest] at this
    exact this
set_option maxRecDepth 100000 in
set_option maxHeartbeats 2000000 in
theorem rless_fold (lo hi b r : Nat) (S T : Nat → Bool) (q : Option Addr) (l : List Nat) (w : World) (h : RefB lo hi w b r S) (ho : ROther w q T l) : Calls Try.prog 58 #[.pointer (some ⟨b, 0, none⟩), .pointer q] w (RJoinEnds lo hi b r (l.foldl (dl r) (S, false)) w) := by
  have H := Mm.hid h
  have HO := Mm.hid ho
  clear h ho
  go_enter Try.func58, Try.ntmps58
  go_wp2_with fail
  refine (held_any q T l _ HO.out).mono ?_
  rintro e w1 ⟨A, n, c, rfl, hc, hn, H1⟩
  have B1 := Mm.hid (H.out.below H1.out.2.2.1)
  have hi1 := H.out.top
  go_wp2_with fail
  go_loopw [6, 7] (fun ch i wr => ∃ k : Nat, k ≤ n ∧ i = .int .i64 (k : Nat) ∧ ch = .bool ((l.take k).foldl (dl r) (S, false)).2 ∧ Hid (RefB lo hi wr b r ((l.take k).foldl (dl r) (S, false)).1 ∧ Fr (fun k => lo ≤ k ∧ k < hi) w1 wr)) (fun _ i _ => n - (intOf i).toNat)
  case atStart => exact ⟨0, by omega, rfl, rfl, B1.out, Fr.refl _ _⟩
  case round =>
    obtain ⟨k, hk, rfl, rfl, HK⟩ := hrel
    by_cases hlt : k < n
    · obtain ⟨x, hx⟩ : ∃ x, l[k]? = some x := ⟨_, List.getElem?_eq_getElem (by have := H1.out.1; omega)⟩
      have HF := Mm.hid (foldl_take (dl r) (S, false) hx)
      have hrd : Rd wr A n 1 (iL (toI l)) := HK.out.2.rd H1.out.2.1 (fun ad hA (e : lo ≤ ad.block ∧ ad.block < hi) => by have := H1.out.2.2.2 ad hA; omega)
      obtain ⟨ad, hA, had, hcell⟩ := hrd.cell (toI_get hx)
      subst hA
      obtain ⟨P, fl, hP⟩ : ∃ P fl, (l.take k).foldl (dl r) (S, false) = (P, fl) := ⟨_, _, rfl⟩
      rw [hP] at HF HK
      rw [hP]
      clear hx hrd hP
      go_wp2_with fail
      refine (rdrop_any lo hi b r P (x : Int) _ HK.out.1).mono ?_
      rintro e w2 ⟨rfl, s2, f2, -⟩
      obtain ⟨b2, hb2⟩ : ∃ b2, hasB r P x = b2 := ⟨_, rfl⟩
      have FN : Hid ((l.take (k + 1)).foldl (dl r) (S, false) = (_, fl || b2) ∧ RefB lo hi w2 b r ((l.take (k + 1)).foldl (dl r) (S, false)).1 ∧ Fr (fun k => lo ≤ k ∧ k < hi) w1 w2) := Mm.hid ⟨by rw [HF.out, ← hb2]; rfl, by rw [HF.out]; exact s2, HK.out.2.trans f2 fun _ _ h => h⟩
      rw [hb2]
      clear s2 f2 hb2
      cases fl
      · go_wp2
        go_roundw
        case rel => exact ⟨k + 1, by omega, by go_num, by rw [FN.out.1]; simp, FN.out.2⟩
        case measure => simp [intOf]; omega
      · go_wp2
        go_roundw
        case rel => exact ⟨k + 1, by omega, by go_num, by rw [FN.out.1]; simp, FN.out.2⟩
        case measure => simp [intOf]; omega
    · have hkn : k = n := by omega
      subst hkn
      have FIN : Hid (RJoinEnds lo hi b r (l.foldl (dl r) (S, false)) w (.returned (.bool ((l.take k).foldl (dl r) (S, false)).2)) wr) := by
        have h := HK.out
        rw [List.take_of_length_le (by rw [H1.out.1]; exact Nat.le_refl _)] at h ⊢
        exact Mm.hid ⟨rfl, h.1, ((Fr.of_below H1.out.2.2.1).mono (fun _ h => h.elim)).trans h.2 fun _ _ h => h⟩
      go_wp2
      go_ret
      exact FIN.out
theorem rless_any (lo hi b r : Nat) (S T : Nat → Bool) (q : Option Addr) (l : List Nat) (w : World) (h : RefB lo hi w b r S) (ho : ROther w q T l) : Calls Try.prog 58 #[.pointer (some ⟨b, 0, none⟩), .pointer q] w (RJoinEnds lo hi b r (less S T, chg (less S T) S (nw r)) w) := by
  have := rless_fold lo hi b r S T q l w h ho
  rcases ho with ⟨_, rfl, rfl⟩ | ⟨lo', hi', b', r', _, h', rfl⟩
  · rw [show ([] : List Nat) = ml none0 0 from rfl, taken r 0 S none0 h.rest fun _ _ => rfl] at this
    exact this
  · rw [taken r r' S T h.rest h'.rest] at this
    exact this
/-- another set, or the same: whether it has a number that the first one holds -/
def RHas (lo hi b r : Nat) (S T : Nat → Bool) (q : Option Addr) (w : World) : Prop := (q = none ∧ T = none0) ∨ (q = some ⟨b, 0, none⟩ ∧ T = S) ∨ ∃ lo' hi' b' r', q = some ⟨b', 0, none⟩ ∧ RefB lo' hi' w b' r' T ∧ ∀ k, lo' ≤ k → k < hi' → ¬ (lo ≤ k ∧ k < hi)
theorem mt_same (r : Nat) (S : Nat → Bool) : ∀ (l : List Nat) (p : (Nat → Bool) × Bool), (∀ x ∈ l, S x = true) → l.foldl (mt r S) p = p
  | [], _, _ => rfl
  | x :: l, p, h => by
    rw [List.foldl_cons]
    unfold mt
    rw [h x List.mem_cons_self, if_pos rfl]
    exact mt_same r S l p fun y hy => h y (List.mem_cons_of_mem _ hy)
set_option maxRecDepth 100000 in
set_option maxHeartbeats 2000000 in
theorem rmeet_any (lo hi b r : Nat) (S T : Nat → Bool) (q : Option Addr) (w : World) (h : RefB lo hi w b r S) (ho : RHas lo hi b r S T q w) : Calls Try.prog 57 #[.pointer (some ⟨b, 0, none⟩), .pointer q] w (RJoinEnds lo hi b r (cap S T, chg (cap S T) S (nw r)) w) := by
  rw [← met r S T h.rest]
  have H := Mm.hid h
  have HO := Mm.hid ho
  obtain ⟨l, hl⟩ : ∃ l, ml S r = l := ⟨_, rfl⟩
  have HL := Mm.hid hl
  rw [hl]
  clear h ho hl
  go_enter Try.func57, Try.ntmps57
  go_wp2_with fail
  refine (all_any lo hi b r S _ H.out).mono ?_
  rintro e w1 ⟨A, n, c, rfl, hc, hn, H1⟩
  rw [HL.out] at H1
  have B1 := Mm.hid (H.out.below H1.out.2.2)
  have hi1 := H.out.top
  go_wp2_with fail
  go_loopw [6, 7] (fun ch i wr => ∃ k : Nat, k ≤ n ∧ i = .int .i64 (k : Nat) ∧ ch = .bool ((l.take k).foldl (mt r T) (S, false)).2 ∧ Hid (RefB lo hi wr b r ((l.take k).foldl (mt r T) (S, false)).1 ∧ Fr (fun k => lo ≤ k ∧ k < hi) w1 wr)) (fun _ i _ => n - (intOf i).toNat)
  case atStart => exact ⟨0, by omega, rfl, rfl, B1.out, Fr.refl _ _⟩
  case round =>
    obtain ⟨k, hk, rfl, rfl, HK⟩ := hrel
    by_cases hlt : k < n
    · obtain ⟨x, hx⟩ : ∃ x, l[k]? = some x := ⟨_, List.getElem?_eq_getElem (by have := H1.out.1; omega)⟩
      have HX : Hid (x < r ∧ S x = true) := Mm.hid (ml_mem.1 (by rw [HL.out]; exact List.mem_of_getElem? hx))
      have HF := Mm.hid (foldl_take (mt r T) (S, false) hx)
      have hrd : Rd wr A n 1 (iL (toI l)) := HK.out.2.rd (Rd.of_own H1.out.2.1) (fun ad hA (e : lo ≤ ad.block ∧ ad.block < hi) => by have := (own_lt H1.out.2.1 (b := ad.block) (by rw [hA]; rfl)).1; omega)
      obtain ⟨ad, hA, had, hcell⟩ := hrd.cell (toI_get hx)
      subst hA
      obtain ⟨P, fl, hP⟩ : ∃ P fl, (l.take k).foldl (mt r T) (S, false) = (P, fl) := ⟨_, _, rfl⟩
      have HP := Mm.hid hP
      rw [hP] at HF HK
      rw [hP]
      clear hx hrd hP
      have HT : Hid (q = none ∧ T x = false ∨ ∃ b', q = some ⟨b', 0, none⟩ ∧ Calls Try.prog 52 #[.pointer (some ⟨b', 0, none⟩), .int .i64 (x : Int)] wr fun e w' => e = .returned (.bool (T x)) ∧ wr = w') := by
        rcases HO.out with ⟨h1, h2⟩ | ⟨h1, h2⟩ | ⟨lo', hi', b', r', h1, h2, h3⟩
        · exact Mm.hid (.inl ⟨h1, by rw [h2]; rfl⟩)
        · refine Mm.hid (.inr ⟨b, h1, ?_⟩)
          have hPS : P = S := by
            have hs := mt_same r S (l.take k) (S, false) (fun y hy => (ml_mem.1 (by rw [HL.out]; exact List.mem_of_mem_take hy)).2)
            have h3 := HP.out
            rw [h2, hs] at h3
            exact (congrArg Prod.fst h3).symm
          have := rhas_any lo hi b r P (x : Int) wr HK.out.1
          rw [hasB_in HX.out.1, hPS] at this
          rw [h2]; exact this
        · refine Mm.hid (.inr ⟨b', h1, ?_⟩)
          have h4 : RefB lo' hi' wr b' r' T := (h2.below H1.out.2.2).fr HK.out.2 h3
          have := rhas_any lo' hi' b' r' T (x : Int) wr h4
          have e : hasB r' T x = T x := by
            rcases Nat.lt_or_ge x r' with hr | hr
            · exact hasB_in hr
            · rw [hasB_big (by omega), h2.rest x hr]
          rwa [e] at this
      cases ht : T x
      · have FF : Hid ((l.take (k + 1)).foldl (mt r T) (S, false) = (dropS r P x, true)) := Mm.hid (by rw [HF.out]; unfold mt; rw [ht]; rfl)
        rw [ht] at HT
        clear HF ht
        rcases HT.out with ⟨rfl, -⟩ | ⟨b', rfl, HC⟩
        · go_wp2_with fail
          refine (rdrop_any lo hi b r P (x : Int) _ HK.out.1).mono ?_
          rintro e w2 ⟨rfl, s2, f2, -⟩
          have FN : Hid (RefB lo hi w2 b r ((l.take (k + 1)).foldl (mt r T) (S, false)).1 ∧ Fr (fun k => lo ≤ k ∧ k < hi) w1 w2) := Mm.hid ⟨by rw [FF.out]; exact s2, HK.out.2.trans f2 fun _ _ h => h⟩
          clear s2 f2
          go_wp2
          go_roundw
          case rel => exact ⟨k + 1, by omega, by go_num, by rw [FF.out], FN.out⟩
          case measure => simp [intOf]; omega
        · have HCC := Mm.hid HC
          clear HC
          go_wp2_with fail
          refine HCC.out.mono ?_
          rintro e w' ⟨rfl, rfl⟩
          go_wp2_with fail
          refine (rdrop_any lo hi b r P (x : Int) _ HK.out.1).mono ?_
          rintro e w2 ⟨rfl, s2, f2, -⟩
          have FN : Hid (RefB lo hi w2 b r ((l.take (k + 1)).foldl (mt r T) (S, false)).1 ∧ Fr (fun k => lo ≤ k ∧ k < hi) w1 w2) := Mm.hid ⟨by rw [FF.out]; exact s2, HK.out.2.trans f2 fun _ _ h => h⟩
          clear s2 f2
          go_wp2
          go_roundw
          case rel => exact ⟨k + 1, by omega, by go_num, by rw [FF.out], FN.out⟩
          case measure => simp [intOf]; omega
      · have FF : Hid ((l.take (k + 1)).foldl (mt r T) (S, false) = (P, fl)) := Mm.hid (by rw [HF.out]; unfold mt; rw [ht]; rfl)
        rw [ht] at HT
        clear HF ht
        rcases HT.out with ⟨-, h0⟩ | ⟨b', rfl, HC⟩
        · cases h0
        · have HCC := Mm.hid HC
          clear HC
          go_wp2_with fail
          refine HCC.out.mono ?_
          rintro e w' ⟨rfl, rfl⟩
          have FN : Hid (RefB lo hi wr b r ((l.take (k + 1)).foldl (mt r T) (S, false)).1 ∧ Fr (fun k => lo ≤ k ∧ k < hi) w1 wr) := Mm.hid ⟨by rw [FF.out]; exact HK.out.1, HK.out.2⟩
          go_wp2
          go_roundw
          case rel => exact ⟨k + 1, by omega, by go_num, by rw [FF.out], FN.out⟩
          case measure => simp [intOf]; omega
    · have hkn : k = n := by omega
      subst hkn
      have FIN : Hid (RJoinEnds lo hi b r (l.foldl (mt r T) (S, false)) w (.returned (.bool ((l.take k).foldl (mt r T) (S, false)).2)) wr) := by
        have h := HK.out
        rw [List.take_of_length_le (by rw [H1.out.1]; exact Nat.le_refl _)] at h ⊢
        exact Mm.hid ⟨rfl, h.1, ((Fr.of_below H1.out.2.2).mono (fun _ h => h.elim)).trans h.2 fun _ _ h => h⟩
      go_wp2
      go_ret
      exact FIN.out
end Go.Proofs.Ytdfdicmbfgkekaa

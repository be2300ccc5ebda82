/- Walk: the number of a name in a web; a new one is put there. -/
import Derived.Test.YthjldlgmfplngaaRg
namespace Go.Reach
variable {α : Type} [DecidableEq α]
def posO (l : List α) (s : α) : Option Nat := if s ∈ l then some (pos l s) else none
theorem posO_in {l : List α} {s : α} (h : s ∈ l) : posO l s = some (pos l s) := if_pos h
theorem posO_out {l : List α} {s : α} (h : s ∉ l) : posO l s = none := if_neg h
theorem posO_snoc {l : List α} {s : α} (h : s ∉ l) (t : α) : posO (l ++ [s]) t = if t = s then some l.length else posO l t := by
  by_cases e : t = s
  · subst e
    rw [if_pos rfl, posO_in (by simp), pos_new h]
  · rw [if_neg e]
    by_cases ht : t ∈ l
    · rw [posO_in ht, posO_in (by simp [ht]), pos_app ht]
    · rw [posO_out ht, posO_out (by simp [ht, e])]
end Go.Reach
namespace Go.Proofs.Ythjldlgmfplngaa
open Go.RowKit Go.Mm Go.Maps Go.Reach Go.WideMaps
theorem info22' : (Try.prog.info? 22).map (fun i => (i.zero, i.size, i.bytes)) = some (some (.slice none 0 0), 1, 24) := by kernel_rfl
theorem zero3 (w : World) : (zeroValue 3).run Try.prog w = .ok (.int .i64 0) w := by kernel_rfl
def nmap (ns : List ByteArray) (s : ByteArray) : Option Value := (posO ns s).map fun k => .int .i64 (k : Nat)
theorem nmap_in {ns : List ByteArray} {s : ByteArray} (h : s ∈ ns) : nmap ns s = some (.int .i64 (pos ns s : Nat)) := by unfold nmap; rw [posO_in h]; rfl
theorem nmap_out {ns : List ByteArray} {s : ByteArray} (h : s ∉ ns) : nmap ns s = none := by unfold nmap; rw [posO_out h]; rfl
theorem nmap_snoc {ns : List ByteArray} {s : ByteArray} (h : s ∉ ns) (t : ByteArray) : upd (nmap ns) s (.int .i64 (ns.length : Nat)) t = nmap (ns ++ [s]) t := by
  unfold upd nmap
  rw [posO_snoc h]
  split <;> rfl
/-- a web under way: the numbers of the names in a map beside it -/
structure WvB (base ab am wb n : Nat) (v0 v1 v2 : Value) (F : Bool × Nat → Value) (W : Wb ByteArray) (w : World) : Prop where
  abox : Blk w ab 87 #[.map (some am)]
  map : MapB Try.prog 9 κs w am n (nmap W.ns)
  web : WebB base wb n v0 v1 v2 F W w
  ge : base ≤ ab ∧ base ≤ am
def WvG (ab am wb : Nat) (v0 v1 v2 : Value) (F : Bool × Nat → Value) (k : Nat) : Prop := k = ab ∨ k = am ∨ WebG wb v0 v1 v2 F k
theorem WvB.glt {base ab am wb n : Nat} {v0 v1 v2 : Value} {F : Bool × Nat → Value} {W : Wb ByteArray} {w : World} (h : WvB base ab am wb n v0 v1 v2 F W w) : ∀ k, WvG ab am wb v0 v1 v2 F k → base ≤ k ∧ k < w.heap.size := by
  rintro k (rfl | rfl | hk)
  · exact ⟨h.ge.1, h.abox.lt⟩
  · exact ⟨h.ge.2, h.map.lt⟩
  · exact h.web.glt k hk
theorem WvB.fr {base ab am wb n : Nat} {v0 v1 v2 : Value} {F : Bool × Nat → Value} {W : Wb ByteArray} {w w' : World} (h : WvB base ab am wb n v0 v1 v2 F W w) (hf : Fr (fun _ => False) w w') : WvB base ab am wb n v0 v1 v2 F W w' :=
  ⟨hf.blk h.abox fun h => h, h.map.fr hf fun h => h, h.web.frn hf, h.ge⟩
def NumE (base ab am wb n : Nat) (v0 v1 v2 : Value) (F : Bool × Nat → Value) (W : Wb ByteArray) (s : ByteArray) (w : World) (e : Ending) (w' : World) : Prop :=
  e = .returned (.int .i64 (pos (W.add s).ns s : Nat)) ∧ ∃ n' u0 u1 u2, n' ≤ n + 1 ∧ Hid (WvB base ab am wb n' u0 u1 u2 F (W.add s) w' ∧ Fr (WvG ab am wb v0 v1 v2 F) w w')
set_option maxRecDepth 100000 in
set_option maxHeartbeats 2000000 in
theorem num_any (base ab am wb n : Nat) (v0 v1 v2 : Value) (F : Bool × Nat → Value) (W : Wb ByteArray) (s : ByteArray) (w : World) (h : WvB base ab am wb n v0 v1 v2 F W w) (hs : s.size ≤ maxLen) (hn : n ≤ 1099511627776) :
    Calls Try.prog 59 #[.string s, .pointer (some ⟨ab, 0, none⟩), .pointer (some ⟨wb, 0, none⟩)] w (NumE base ab am wb n v0 v1 v2 F W s w) := by
  have H := Mm.hid h
  have KY := Mm.hid (keyOf_string_mk (P := Try.prog) (k := 9) Try.underlying9 hs)
  have lk := h.map.look_ok law9 Try.underlying87 (zero3 w) KY.out
  have e0 : w.cell? ⟨ab, 0, none⟩ = some (.map (some am)) := h.abox.cell 0
  obtain ⟨A0, c0, rfl, hc0, _, _⟩ := own_slice h.web.nm
  obtain ⟨A1, c1, rfl, hc1, _, _⟩ := own_slice h.web.r1
  obtain ⟨A2, c2, rfl, hc2, _, _⟩ := own_slice h.web.r2
  have d0 : w.cell? ⟨wb, 0, none⟩ = some (.slice A0 n c0) := h.web.box.cell 0
  clear h hs
  by_cases hin : s ∈ W.ns
  · rw [nmap_in hin] at lk
    simp only [Option.getD_some, Option.isSome_some] at lk
    have FN : Hid (NumE base ab am wb n (.slice A0 n c0) (.slice A1 n c1) (.slice A2 n c2) F W s w (.returned (.int .i64 (pos W.ns s : Nat))) w) := by
      refine ⟨by rw [Wb.add_in hin], n, _, _, _, by omega, by rw [Wb.add_in hin]; exact H.out, Fr.refl _ _⟩
    clear hin
    go_enter Try.func59, Try.ntmps59
    go_wp2_with fail
    go_ret
    exact FN.out
  · rw [nmap_out hin] at lk
    simp only [Option.getD_none, Option.isSome_none] at lk
    have NI := Mm.hid hin
    obtain ⟨w6, hrun, m6, g6⟩ := H.out.map.put law9 κs_inj κs_lit Try.underlying87 (by unfold maxLen; omega) KY.out (.int .i64 (n : Nat))
    have F6 : Hid (Fr (fun k => k = am) w w6) := (Fr.grown g6).mono fun k e => by injection e with e; exact e.symm
    have M6 : Hid (MapB Try.prog 9 κs w6 am (n + 1) (nmap (W.ns ++ [s]))) := m6.to fun t => by rw [← nmap_snoc NI.out, H.out.web.len]
    have W6 : Hid (WebB base wb n (.slice A0 n c0) (.slice A1 n c1) (.slice A2 n c2) F W w6) := H.out.web.fr F6.out fun k e hG => by
      subst e
      rcases hG with e | e | e | e | ⟨q, e⟩
      · exact H.out.map.ne_blk H.out.web.box e
      · exact H.out.map.ne_own H.out.web.nm e
      · exact H.out.map.ne_own H.out.web.r1 e
      · exact H.out.map.ne_own H.out.web.r2 e
      · exact H.out.map.ne_own (H.out.web.row q) e
    have A6 : Hid (Blk w6 ab 87 #[.map (some am)]) := F6.out.blk H.out.abox fun e => H.out.map.ne_blk H.out.abox e.symm
    have HB6 : Hid (base ≤ w6.heap.size) := by show _ ≤ _; have := H.out.web.box.lt; have := H.out.web.ge; have := F6.out.size; omega
    clear hin m6 g6
    go_enter Try.func59, Try.ntmps59
    go_upto_region 5 with (fail)
    refine wp_region_inv (fun L a wq => L.size = 19 ∧ ∃ Y : Nat → Value, a = ⟨#[.string s, .pointer (some ⟨ab, 0, none⟩), .pointer (some ⟨wb, 0, none⟩), undef, .int .i64 0, .int .i64 (n : Nat), .bool false, .tuple #[.int .i64 0, .bool false], .map (some am), .string s, .tuple #[.int .i64 0, .bool false], .int .i64 0, .bool false, .bool false, .bool true, .pointer (some ⟨wb, 0, none⟩), .slice A0 n c0, .int .i64 (n : Nat), .map (some am), .string s, .int .i64 (n : Nat), Y 0, Y 1, Y 2, Y 3, Y 4, Y 5, Y 6, Y 7, Y 8, Y 9, Y 10, Y 11, Y 12, Y 13, Y 15, Y 17, undef], []⟩ ∧ Hid (RgI w6 base wb n (.slice A0 n c0) (.slice A1 n c1) (.slice A2 n c2) F W s (fun j => L.getD j false) Y wq)) (by kernel_rfl) ?_ ?_ ?_
    · refine ⟨by simp, fun _ => undef, rfl, ?_⟩
      have hU : (fun j => (Array.replicate 19 false).getD j false) = fun _ => false := by
        funext j
        by_cases hj : j < 19 <;> simp [hj]
      show RgI _ _ _ _ _ _ _ _ _ _ (fun j => (Array.replicate 19 false).getD j false) _ _
      rw [hU]
      exact ⟨fun _ _ _ h => (by cases h), fun _ _ _ _ h _ => (by cases h), .s0 (Fr.drew (fun _ => False) w6), (fun h => by cases h), (fun h => by cases h), (fun h => by cases h)⟩
    · rintro L a wq i ⟨hsz, Y, rfl, HI⟩ hi
      have hlt : i < 19 := ready_lt hi
      have hnu := not_up hi
      have SZ : Hid (w6.heap.size ≤ w6.heap.size) := Nat.le_refl _
      have hc : i = 0 ∨ i = 1 ∨ i = 2 ∨ i = 3 ∨ i = 4 ∨ i = 5 ∨ i = 6 ∨ i = 7 ∨ i = 8 ∨ i = 9 ∨ i = 10 ∨ i = 11 ∨ i = 12 ∨ i = 13 ∨ i = 14 ∨ i = 15 ∨ i = 16 ∨ i = 17 ∨ i = 18 := by omega
      clear hlt
      rcases hc with rfl | rfl | rfl | rfl | rfl | rfl | rfl | rfl | rfl | rfl | rfl | rfl | rfl | rfl | rfl | rfl | rfl | rfl | rfl
      · -- 0
        refine wpOp_step (o := _) rfl (fun K hK => ?_)
        go_simp
        exact hK _ _ ⟨by rw [Array.size_setIfInBounds]; exact hsz, Y1 Y 0 (.pointer (some ⟨wb, 0, none⟩)), rfl, by rw [upF (by omega)]; exact HI.out.pure (i := 0) rfl⟩
      · -- 1
        have y0 : Y 0 = .pointer (some ⟨wb, 0, none⟩) := HI.out.pv 0 _ rfl (ready_dep (k := 0) hi (by kernel_rfl))
        have h14 : L.getD 14 false = false := by
          cases hc : L.getD 14 false with
          | false => rfl
          | true =>
            have h := HI.out.d14 hc
            rw [hnu] at h
            simp at h
        have hst := HI.out.st
        rw [h14] at hst
        have d1 : wq.cell? ⟨wb, 0, none⟩ = some (.slice A0 n c0) := (hst.box W6.out).cell 0
        clear hst h14
        refine wpOp_step (o := _) rfl (fun K hK => ?_)
        go_simp
        exact hK _ _ ⟨by rw [Array.size_setIfInBounds]; exact hsz, Y1 Y 1 (.slice A0 n c0), by simp [Y1, y0], by rw [upF (by omega)]; exact HI.out.pure (i := 1) rfl⟩
      · -- 2
        refine wpOp_step (o := _) rfl (fun K hK => ?_)
        go_simp
        exact hK _ _ ⟨by rw [Array.size_setIfInBounds]; exact hsz, Y1 Y 2 (.string s), rfl, by rw [upF (by omega)]; exact HI.out.pure (i := 2) rfl⟩
      · -- 3
        have y2 : Y 2 = .string s := HI.out.pv 2 _ rfl (ready_dep (k := 2) hi (by kernel_rfl))
        have hsw : w6.heap.size ≤ wq.heap.size := HI.out.st.size
        refine wpOp_step (o := _) rfl (fun K hK => ?_)
        go_simp
        exact hK _ _ ⟨by rw [Array.size_setIfInBounds]; exact hsz, Y1 Y 3 (.slice (some ⟨wq.heap.size, 0, none⟩) 1 1), by simp [Y1, y2], by rw [upF (by omega)]; exact HI.out.box (i := 3) rfl hnu hsw⟩
      · -- 4
        have y1 : Y 1 = .slice A0 n c0 := HI.out.pv 1 _ rfl (ready_dep (k := 1) hi (by kernel_rfl))
        have hb := HI.out.bx 3 _ _ rfl (ready_dep (k := 3) hi (by kernel_rfl)) (HI.out.st.at0 hnu).2.2.1
        obtain ⟨g, y3, _, hbx⟩ := hb
        obtain ⟨ho, hsw, hN⟩ := HI.out.app4 W6.out hnu
        refine wpOp_step (o := _) rfl (fun K hK => ?_)
        refine step_ape1 base rfl (.tmp 22) (.tmp 24) 33 9 (.string ByteArray.empty) 1 16 #[.string s] g rfl Try.underlying33 info9 rfl (by decide) (by decide) (.slice A0 n c0) n _ y1 y3 hbx rfl (by intro u hu; simp at hu; subst hu; rfl) ho (Nat.le_trans HB6.out hsw) (by omega) ?_
        intro u wa k1 k3 k4
        exact hK _ _ ⟨by rw [Array.size_setIfInBounds]; exact hsz, Y1 Y 4 (u), rfl, by rw [upF (by omega)]; exact hN u wa k1 k3⟩
      · -- 5
        refine wpOp_step (o := _) rfl (fun K hK => ?_)
        go_simp
        exact hK _ _ ⟨by rw [Array.size_setIfInBounds]; exact hsz, Y1 Y 5 (.pointer (some ⟨wb, 1, none⟩)), rfl, by rw [upF (by omega)]; exact HI.out.pure (i := 5) rfl⟩
      · -- 6
        have y5 : Y 5 = .pointer (some ⟨wb, 1, none⟩) := HI.out.pv 5 _ rfl (ready_dep (k := 5) hi (by kernel_rfl))
        have h14 : L.getD 14 false = false := by
          cases hc : L.getD 14 false with
          | false => rfl
          | true =>
            have h := HI.out.d14 hc
            rw [hnu] at h
            simp at h
        have hst := HI.out.st
        rw [h14] at hst
        have d1 : wq.cell? ⟨wb, 1, none⟩ = some (.slice A1 n c1) := (hst.box W6.out).cell 1
        clear hst h14
        refine wpOp_step (o := _) rfl (fun K hK => ?_)
        go_simp
        exact hK _ _ ⟨by rw [Array.size_setIfInBounds]; exact hsz, Y1 Y 6 (.slice A1 n c1), by simp [Y1, y5], by rw [upF (by omega)]; exact HI.out.pure (i := 6) rfl⟩
      · -- 7
        have hsw : w6.heap.size ≤ wq.heap.size := HI.out.st.size
        refine wpOp_step (o := _) rfl (fun K hK => ?_)
        go_simp
        exact hK _ _ ⟨by rw [Array.size_setIfInBounds]; exact hsz, Y1 Y 7 (.slice (some ⟨wq.heap.size, 0, none⟩) 1 1), by simp [Y1], by rw [upF (by omega)]; exact HI.out.box (i := 7) rfl hnu hsw⟩
      · -- 8
        have y6 : Y 6 = .slice A1 n c1 := HI.out.pv 6 _ rfl (ready_dep (k := 6) hi (by kernel_rfl))
        have hb := HI.out.bx 7 _ _ rfl (ready_dep (k := 7) hi (by kernel_rfl)) (HI.out.st.at1 (ready_dep (k := 4) hi (by kernel_rfl)) hnu).2.1
        obtain ⟨g, y7, _, hbx⟩ := hb
        obtain ⟨ho, hsw, hN⟩ := HI.out.app8 W6.out (ready_dep (k := 4) hi (by kernel_rfl)) hnu (ready_dep (k := 7) hi (by kernel_rfl))
        refine wpOp_step (o := _) rfl (fun K hK => ?_)
        refine step_ape1 base rfl (.tmp 27) (.tmp 28) 23 22 (.slice none 0 0) 1 24 #[nilS] g rfl Try.underlying23 info22' rfl (by decide) (by decide) (.slice A1 n c1) n _ y6 y7 hbx rfl (by intro u hu; simp at hu; subst hu; rfl) ho (Nat.le_trans HB6.out hsw) (by omega) ?_
        intro u wa k1 k3 k4
        exact hK _ _ ⟨by rw [Array.size_setIfInBounds]; exact hsz, Y1 Y 8 (u), rfl, by rw [upF (by omega)]; exact hN u wa k1 k3 (k4_of (P := fun _ => True) (k4.imp id fun h => ⟨_, h, Nat.le_refl _, trivial⟩))⟩
      · -- 9
        refine wpOp_step (o := _) rfl (fun K hK => ?_)
        go_simp
        exact hK _ _ ⟨by rw [Array.size_setIfInBounds]; exact hsz, Y1 Y 9 (.pointer (some ⟨wb, 2, none⟩)), rfl, by rw [upF (by omega)]; exact HI.out.pure (i := 9) rfl⟩
      · -- 10
        have y9 : Y 9 = .pointer (some ⟨wb, 2, none⟩) := HI.out.pv 9 _ rfl (ready_dep (k := 9) hi (by kernel_rfl))
        have h14 : L.getD 14 false = false := by
          cases hc : L.getD 14 false with
          | false => rfl
          | true =>
            have h := HI.out.d14 hc
            rw [hnu] at h
            simp at h
        have hst := HI.out.st
        rw [h14] at hst
        have d1 : wq.cell? ⟨wb, 2, none⟩ = some (.slice A2 n c2) := (hst.box W6.out).cell 2
        clear hst h14
        refine wpOp_step (o := _) rfl (fun K hK => ?_)
        go_simp
        exact hK _ _ ⟨by rw [Array.size_setIfInBounds]; exact hsz, Y1 Y 10 (.slice A2 n c2), by simp [Y1, y9], by rw [upF (by omega)]; exact HI.out.pure (i := 10) rfl⟩
      · -- 11
        have hsw : w6.heap.size ≤ wq.heap.size := HI.out.st.size
        refine wpOp_step (o := _) rfl (fun K hK => ?_)
        go_simp
        exact hK _ _ ⟨by rw [Array.size_setIfInBounds]; exact hsz, Y1 Y 11 (.slice (some ⟨wq.heap.size, 0, none⟩) 1 1), by simp [Y1], by rw [upF (by omega)]; exact HI.out.box (i := 11) rfl hnu hsw⟩
      · -- 12
        have y10 : Y 10 = .slice A2 n c2 := HI.out.pv 10 _ rfl (ready_dep (k := 10) hi (by kernel_rfl))
        have hb := HI.out.bx 11 _ _ rfl (ready_dep (k := 11) hi (by kernel_rfl)) (HI.out.st.at2 (ready_dep (k := 8) hi (by kernel_rfl)) hnu).2.1
        obtain ⟨g, y11, _, hbx⟩ := hb
        obtain ⟨ho, hsw, hN⟩ := HI.out.app12 W6.out (ready_dep (k := 8) hi (by kernel_rfl)) hnu (ready_dep (k := 11) hi (by kernel_rfl))
        refine wpOp_step (o := _) rfl (fun K hK => ?_)
        refine step_ape1 base rfl (.tmp 31) (.tmp 32) 23 22 (.slice none 0 0) 1 24 #[nilS] g rfl Try.underlying23 info22' rfl (by decide) (by decide) (.slice A2 n c2) n _ y10 y11 hbx rfl (by intro u hu; simp at hu; subst hu; rfl) ho (Nat.le_trans HB6.out hsw) (by omega) ?_
        intro u wa k1 k3 k4
        exact hK _ _ ⟨by rw [Array.size_setIfInBounds]; exact hsz, Y1 Y 12 (u), rfl, by rw [upF (by omega)]; exact hN u wa k1 k3 (k4_of (P := fun _ => True) (k4.imp id fun h => ⟨_, h, Nat.le_refl _, trivial⟩))⟩
      · -- 13
        refine wpOp_step (o := _) rfl (fun K hK => ?_)
        go_simp
        exact hK _ _ ⟨by rw [Array.size_setIfInBounds]; exact hsz, Y1 Y 13 (.pointer (some ⟨wb, 0, none⟩)), rfl, by rw [upF (by omega)]; exact HI.out.pure (i := 13) rfl⟩
      · -- 14
        have y13 : Y 13 = .pointer (some ⟨wb, 0, none⟩) := HI.out.pv 13 _ rfl (ready_dep (k := 13) hi (by kernel_rfl))
        obtain ⟨hbx, ⟨B, cB, yB⟩, hN⟩ := HI.out.st14 W6.out (ready_dep (k := 12) hi (by kernel_rfl)) hnu ⟨(ready_dep (k := 1) hi (by kernel_rfl)), (ready_dep (k := 6) hi (by kernel_rfl)), (ready_dep (k := 10) hi (by kernel_rfl)), (ready_dep (k := 3) hi (by kernel_rfl))⟩
        have d1 : wq.cell? ⟨wb, 0, none⟩ = some (.slice A0 n c0) := hbx.cell 0
        rw [yB] at hN
        have d2 : wq.frozen? ⟨wb, 0, none⟩ = false := hbx.free 0
        refine wpOp_step (o := _) rfl (fun K hK => ?_)
        go_simp
        refine hK _ _ ?_
        exact ⟨by rw [Array.size_setIfInBounds]; exact hsz, Y1 Y 14 (undef), by simp [Y1, y13, yB], by rw [upF (by omega)]; exact hN⟩
      · -- 15
        refine wpOp_step (o := _) rfl (fun K hK => ?_)
        go_simp
        exact hK _ _ ⟨by rw [Array.size_setIfInBounds]; exact hsz, Y1 Y 15 (.pointer (some ⟨wb, 1, none⟩)), rfl, by rw [upF (by omega)]; exact HI.out.pure (i := 15) rfl⟩
      · -- 16
        have y15 : Y 15 = .pointer (some ⟨wb, 1, none⟩) := HI.out.pv 15 _ rfl (ready_dep (k := 15) hi (by kernel_rfl))
        obtain ⟨hbx, ⟨B, cB, yB⟩, hN⟩ := HI.out.st16 W6.out (ready_dep (k := 14) hi (by kernel_rfl)) hnu
        have d1 : wq.cell? ⟨wb, 1, none⟩ = some (.slice A1 n c1) := hbx.cell 1
        rw [yB] at hN
        have d2 : wq.frozen? ⟨wb, 1, none⟩ = false := hbx.free 1
        refine wpOp_step (o := _) rfl (fun K hK => ?_)
        go_simp
        refine hK _ _ ?_
        exact ⟨by rw [Array.size_setIfInBounds]; exact hsz, Y1 Y 16 (undef), by simp [Y1, y15, yB], by rw [upF (by omega)]; exact hN⟩
      · -- 17
        refine wpOp_step (o := _) rfl (fun K hK => ?_)
        go_simp
        exact hK _ _ ⟨by rw [Array.size_setIfInBounds]; exact hsz, Y1 Y 17 (.pointer (some ⟨wb, 2, none⟩)), rfl, by rw [upF (by omega)]; exact HI.out.pure (i := 17) rfl⟩
      · -- 18
        have y17 : Y 17 = .pointer (some ⟨wb, 2, none⟩) := HI.out.pv 17 _ rfl (ready_dep (k := 17) hi (by kernel_rfl))
        obtain ⟨hbx, ⟨B, cB, yB⟩, hN⟩ := HI.out.st18 W6.out (ready_dep (k := 16) hi (by kernel_rfl)) hnu
        have d1 : wq.cell? ⟨wb, 2, none⟩ = some (.slice A2 n c2) := hbx.cell 2
        rw [yB] at hN
        have d2 : wq.frozen? ⟨wb, 2, none⟩ = false := hbx.free 2
        refine wpOp_step (o := _) rfl (fun K hK => ?_)
        go_simp
        refine hK _ _ ?_
        exact ⟨by rw [Array.size_setIfInBounds]; exact hsz, Y1 Y 18 (undef), by simp [Y1, y17, yB], by rw [upF (by omega)]; exact hN⟩
    · rintro L a wq ⟨hsz, Y, rfl, HI⟩ hr
      have hall := all_up (by exact hsz) (by kernel_rfl) hr
      obtain ⟨hWf, hFf⟩ := HI.out.fin W6.out (hall 18 (by decide))
      have nab : ¬ WebG wb (.slice A0 n c0) (.slice A1 n c1) (.slice A2 n c2) F ab := by
        rintro (e | e | e | e | ⟨q, e⟩)
        · exact blk_ne A6.out W6.out.box (by decide) e
        · exact own_ne W6.out.nm A6.out (by decide) e
        · exact own_ne W6.out.r1 A6.out (by decide) e
        · exact own_ne W6.out.r2 A6.out (by decide) e
        · exact own_ne (W6.out.row q) A6.out (by decide) e
      have nam : ¬ WebG wb (.slice A0 n c0) (.slice A1 n c1) (.slice A2 n c2) F am := by
        rintro (e | e | e | e | ⟨q, e⟩)
        · exact M6.out.ne_blk W6.out.box e
        · exact M6.out.ne_own W6.out.nm e
        · exact M6.out.ne_own W6.out.r1 e
        · exact M6.out.ne_own W6.out.r2 e
        · exact M6.out.ne_own (W6.out.row q) e
      have FN : Hid (NumE base ab am wb n (.slice A0 n c0) (.slice A1 n c1) (.slice A2 n c2) F W s w (.returned (.int .i64 (n : Nat))) wq) := by
        refine ⟨by rw [Wb.add_out NI.out, pos_new NI.out, H.out.web.len], n + 1, Y 4, Y 8, Y 12, Nat.le_refl _, ?_, ?_⟩
        · rw [Wb.add_out NI.out]
          exact ⟨hFf.blk A6.out nab, M6.out.fr hFf nam, hWf, H.out.ge⟩
        · exact (F6.out.mono (T := WvG ab am wb (.slice A0 n c0) (.slice A1 n c1) (.slice A2 n c2) F) fun k e => .inr (.inl e)).trans hFf fun k _ e => .inr (.inr e)
      clear hWf hFf nab nam hall hr HI
      go_wp2_with fail
      go_ret
      exact FN.out
end Go.Proofs.Ythjldlgmfplngaa

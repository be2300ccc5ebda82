/- Walks: the four accesses. -/
import Derived.Test.YtkbobgblohohcaaNote
namespace Go.Proofs.Ytkbobgblohohcaa
open Go.RowKit Go.Mm Go.Cells
theorem Turns.after {base g : Nat} {F : Nat → Prop} {w w2 w3 : World} {S : Cm} (hf : Fr F w w2) (h : Turns base F w2 g S w3) : Turns base F w g S w3 := by
  obtain ⟨F', h1, h2, h3⟩ := h.out
  refine ⟨F', h1, fun k hk => ?_, hf.trans h3 fun _ _ h => h⟩
  rcases h2 k hk with h | h
  · exact .inl h
  · exact .inr (Nat.le_trans hf.size h)
theorem MemB.word {base g : Nat} {F : Nat → Prop} {w : World} {S : Cm} (h : MemB base F w g S) {i : Nat} {x : Int} (hx : S.ws[i]? = some x) {n : Nat} (hn : S.ws.length = n) :
    ∃ gw c, w.cell? ⟨g, 0, none⟩ = some (.slice (some ⟨gw, 0, none⟩) n c) ∧ n ≤ c ∧ w.cell? ⟨gw, i, none⟩ = some (.int .i64 x) ∧ w.frozen? ⟨gw, i, none⟩ = false ∧
      ∀ y : Int, MemB base F (w.setCell ⟨gw, i, none⟩ (.int .i64 y)) g ⟨S.ws.set i y, S.tr, S.bad⟩ ∧ Fr F w (w.setCell ⟨gw, i, none⟩ (.int .i64 y)) := by
  obtain ⟨vW, vT, h1, h2, h3, h4, h5⟩ := h.out
  have hi := (List.getElem?_eq_some_iff.1 hx).1
  subst hn
  obtain ⟨gw, c, rfl, hc, _, _, hcell, hfree⟩ := own_blk h2 (by omega)
  refine ⟨gw, c, h1.cell 0, hc, hcell i _ (iL_get hx), hfree i, fun y => ?_⟩
  have hs := Fr.setCell w ⟨gw, i, none⟩ (.int .i64 y)
  have hFr : Fr F w (w.setCell ⟨gw, i, none⟩ (.int .i64 y)) := hs.mono fun k (e : k = gw) => e ▸ h4 gw rfl
  refine ⟨⟨⟨_, vT, hs.blk h1 fun (e : g = gw) => own_ne h2 h1 (by decide) (by rw [e]; rfl), ?_, hs.own h3 fun b hb (e : b = gw) => own_own_ne h2 h3 (by decide) (b := gw) rfl (by rw [hb, e]), h4, h5⟩, h.fg, fun k hk => ⟨(h.lt k hk).1, by have := (h.lt k hk).2; simp [World.setCell]; exact this⟩, by simpa using h.wl⟩, hFr⟩
  have := own_set h2 i (.int .i64 y)
  rw [iL_set] at this
  simpa using this
theorem look_cases (S : Cm) (addr : Int) : (∃ (i : Nat) (x : Int), addr = i ∧ S.ws[i]? = some x ∧ x ≠ poison ∧ S.look addr = (x, 0) ∧ S.looked addr = S.bad) ∨ ∃ v e : Int, e ≠ 0 ∧ S.look addr = (v, e) ∧ S.looked addr = S.bad + 1 := by
  by_cases hin : 0 ≤ addr ∧ addr < S.ws.length
  · obtain ⟨i, rfl⟩ := Int.eq_ofNat_of_zero_le hin.1
    obtain ⟨x, hx⟩ : ∃ x, S.ws[i]? = some x := ⟨_, List.getElem?_eq_getElem (by omega)⟩
    by_cases hp : x = poison
    · obtain ⟨h1, h2⟩ := look_bad hx hp
      exact .inr ⟨x, 141, by decide, h1, h2⟩
    · obtain ⟨h1, h2⟩ := look_good hx hp
      exact .inl ⟨i, x, rfl, hx, hp, h1, h2⟩
  · obtain ⟨h1, h2⟩ := look_out hin
    exact .inr ⟨0, 140, by decide, h1, h2⟩
section
variable (base g : Nat) (F : Nat → Prop) (S : Cm) (addr : Int) (w : World)
set_option maxHeartbeats 1000000 in
theorem load_any (h : MemB base F w g S) (hB : base ≤ w.heap.size) (hb : S.bad ≤ 4611686018427387904) (hn : (S.tr.length + 1) * 40 ≤ 140737488355328) :
    Calls Try.prog 21 #[.pointer (some ⟨g, 0, none⟩), .int .i64 addr] w (OpEnds base F g (S.load addr) (.tuple #[.int .i64 (S.look addr).1, .int .i64 (S.look addr).2]) w) := by
  have H := Mm.hid h
  clear h
  rcases look_cases S addr with ⟨i, x, rfl, hx, hp, h1, h2⟩ | ⟨v, e, he, h1, h2⟩
  · have HS : Hid ((⟨S.ws, S.tr, S.looked i⟩ : Cm).note ⟨1, i, x, 0, true⟩ = S.load i) := by show _ = _; simp [Cm.load, Cm.note, h1]
    have L1 := Mm.hid h1
    clear h1 h2 hx hp
    go_enter Try.func21, Try.ntmps21
    go_wp2_with fail
    refine (look_any base g F S i w H.out hb).mono ?_
    rintro e w1 ⟨rfl, hm, hf, hs⟩
    rw [L1.out]
    have M1 := Mm.hid hm
    have F1 := Mm.hid hf
    have hB1 : base ≤ w1.heap.size := by omega
    clear hm hf hs
    go_wp2_with fail
    refine (note_any base g F _ 1 i x 0 true _ M1.out hB1 hn).mono ?_
    rintro e w2 ⟨rfl, ht⟩
    rw [HS.out] at ht
    have T2 := Mm.hid (Turns.after F1.out ht)
    clear ht
    go_wp2
    go_ret2
    exact ⟨by rw [L1.out]; rfl, T2.out⟩
  · have HS : Hid ((⟨S.ws, S.tr, S.looked addr⟩ : Cm).note ⟨1, addr, v, 0, false⟩ = S.load addr) := by show _ = _; simp [Cm.load, Cm.note, h1, he]
    have L1 := Mm.hid h1
    have heb : (e == 0) = false := beq_eq_false_iff_ne.2 he
    clear h1 h2 he
    go_enter Try.func21, Try.ntmps21
    go_wp2_with fail
    refine (look_any base g F S addr w H.out hb).mono ?_
    rintro e' w1 ⟨rfl, hm, hf, hs⟩
    rw [L1.out]
    have M1 := Mm.hid hm
    have F1 := Mm.hid hf
    have hB1 : base ≤ w1.heap.size := by omega
    clear hm hf hs
    go_wp2_with fail
    refine (note_any base g F _ 1 addr v 0 false _ M1.out hB1 hn).mono ?_
    rintro e' w2 ⟨rfl, ht⟩
    rw [HS.out] at ht
    have T2 := Mm.hid (Turns.after F1.out ht)
    clear ht
    go_wp2
    go_ret2
    exact ⟨by rw [L1.out]; rfl, T2.out⟩
set_option maxHeartbeats 1000000 in
theorem store_any (y : Int) (h : MemB base F w g S) (hB : base ≤ w.heap.size) (hb : S.bad ≤ 4611686018427387904) (hn : (S.tr.length + 1) * 40 ≤ 140737488355328) :
    Calls Try.prog 20 #[.pointer (some ⟨g, 0, none⟩), .int .i64 addr, .int .i64 y] w (OpEnds base F g (S.store addr y) (.int .i64 (S.look addr).2) w) := by
  have H := Mm.hid h
  obtain ⟨n, hnn⟩ : ∃ n, S.ws.length = n := ⟨_, rfl⟩
  have hwl := h.wl
  rw [hnn] at hwl
  clear h
  rcases look_cases S addr with ⟨i, x, rfl, hx, hp, h1, h2⟩ | ⟨v, e, he, h1, h2⟩
  · have HS : Hid ((⟨S.ws.set i y, S.tr, S.looked i⟩ : Cm).note ⟨2, i, y, x, true⟩ = S.store i y) := by show _ = _; simp [Cm.store, Cm.note, h1]
    have L1 := Mm.hid h1
    have hi : i < n := by rw [← hnn]; exact (List.getElem?_eq_some_iff.1 hx).1
    have HX := Mm.hid hx
    have HN := Mm.hid hnn
    clear h1 h2 hx hp hnn
    go_enter Try.func20, Try.ntmps20
    go_wp2_with fail
    refine (look_any base g F S i w H.out hb).mono ?_
    rintro e w1 ⟨rfl, hm, hf, hs⟩
    rw [L1.out]
    obtain ⟨gw, c, c0, hc, c1, c2, hset⟩ := hm.word (i := i) (x := x) HX.out (n := n) HN.out
    have M1 := Mm.hid (hset y).1
    have F1 := Mm.hid (hf.trans (hset y).2 fun _ _ h => h)
    have hB1 : base ≤ (w1.setCell ⟨gw, i, none⟩ (.int .i64 y)).heap.size := Nat.le_trans hB F1.out.size
    have HB1 := Mm.hid hB1
    clear hm hf hs hset hB1
    go_wp2_with fail
    refine (note_any base g F _ 2 i y x true _ M1.out HB1.out hn).mono ?_
    rintro e w2 ⟨rfl, ht⟩
    rw [HS.out] at ht
    have T2 := Mm.hid (Turns.after F1.out ht)
    clear ht
    go_wp2
    go_ret
    exact ⟨by rw [L1.out]; rfl, T2.out⟩
  · have HS : Hid ((⟨S.ws, S.tr, S.looked addr⟩ : Cm).note ⟨2, addr, y, v, false⟩ = S.store addr y) := by show _ = _; simp [Cm.store, Cm.note, h1, he]
    have L1 := Mm.hid h1
    have heb : (e == 0) = false := beq_eq_false_iff_ne.2 he
    clear h1 h2 he hnn
    go_enter Try.func20, Try.ntmps20
    go_wp2_with fail
    refine (look_any base g F S addr w H.out hb).mono ?_
    rintro e' w1 ⟨rfl, hm, hf, hs⟩
    rw [L1.out]
    have M1 := Mm.hid hm
    have F1 := Mm.hid hf
    have hB1 : base ≤ w1.heap.size := by omega
    clear hm hf hs
    go_wp2_with fail
    refine (note_any base g F _ 2 addr y v false _ M1.out hB1 hn).mono ?_
    rintro e' w2 ⟨rfl, ht⟩
    rw [HS.out] at ht
    have T2 := Mm.hid (Turns.after F1.out ht)
    clear ht
    go_wp2
    go_ret
    exact ⟨by rw [L1.out]; rfl, T2.out⟩
set_option maxHeartbeats 1000000 in
theorem add_any (y : Int) (h : MemB base F w g S) (hB : base ≤ w.heap.size) (hb : S.bad ≤ 4611686018427387904) (hn : (S.tr.length + 1) * 40 ≤ 140737488355328) :
    Calls Try.prog 24 #[.pointer (some ⟨g, 0, none⟩), .int .i64 addr, .int .i64 y] w (OpEnds base F g (S.add addr y) (.tuple #[.int .i64 (S.look addr).1, .int .i64 (S.look addr).2]) w) := by
  have H := Mm.hid h
  obtain ⟨n, hnn⟩ : ∃ n, S.ws.length = n := ⟨_, rfl⟩
  have hwl := h.wl
  rw [hnn] at hwl
  clear h
  rcases look_cases S addr with ⟨i, x, rfl, hx, hp, h1, h2⟩ | ⟨v, e, he, h1, h2⟩
  · have HS : Hid ((⟨S.ws.set i (wrap64 (x + y)), S.tr, S.looked i⟩ : Cm).note ⟨4, i, y, x, true⟩ = S.add i y) := by show _ = _; simp [Cm.add, Cm.note, h1]
    have L1 := Mm.hid h1
    have hi : i < n := by rw [← hnn]; exact (List.getElem?_eq_some_iff.1 hx).1
    have HX := Mm.hid hx
    have HN := Mm.hid hnn
    clear h1 h2 hx hp hnn
    go_enter Try.func24, Try.ntmps24
    go_wp2_with fail
    refine (look_any base g F S i w H.out hb).mono ?_
    rintro e w1 ⟨rfl, hm, hf, hs⟩
    rw [L1.out]
    obtain ⟨gw, c, c0, hc, c1, c2, hset⟩ := hm.word (i := i) (x := x) HX.out (n := n) HN.out
    have M1 := Mm.hid (hset (wrap64 (x + y))).1
    have F1 := Mm.hid (hf.trans (hset (wrap64 (x + y))).2 fun _ _ h => h)
    have hB1 : base ≤ (w1.setCell ⟨gw, i, none⟩ (.int .i64 (wrap64 (x + y)))).heap.size := Nat.le_trans hB F1.out.size
    have HB1 := Mm.hid hB1
    clear hm hf hs hset hB1
    go_wp2_with fail
    refine (note_any base g F _ 4 i y x true _ M1.out HB1.out hn).mono ?_
    rintro e w2 ⟨rfl, ht⟩
    rw [HS.out] at ht
    have T2 := Mm.hid (Turns.after F1.out ht)
    clear ht
    go_wp2
    go_ret2
    exact ⟨by rw [L1.out]; rfl, T2.out⟩
  · have HS : Hid ((⟨S.ws, S.tr, S.looked addr⟩ : Cm).note ⟨4, addr, y, v, false⟩ = S.add addr y) := by show _ = _; simp [Cm.add, Cm.note, h1, he]
    have L1 := Mm.hid h1
    have heb : (e == 0) = false := beq_eq_false_iff_ne.2 he
    clear h1 h2 he hnn
    go_enter Try.func24, Try.ntmps24
    go_wp2_with fail
    refine (look_any base g F S addr w H.out hb).mono ?_
    rintro e' w1 ⟨rfl, hm, hf, hs⟩
    rw [L1.out]
    have M1 := Mm.hid hm
    have F1 := Mm.hid hf
    have hB1 : base ≤ w1.heap.size := by omega
    clear hm hf hs
    go_wp2_with fail
    refine (note_any base g F _ 4 addr y v false _ M1.out hB1 hn).mono ?_
    rintro e' w2 ⟨rfl, ht⟩
    rw [HS.out] at ht
    have T2 := Mm.hid (Turns.after F1.out ht)
    clear ht
    go_wp2
    go_ret2
    exact ⟨by rw [L1.out]; rfl, T2.out⟩
set_option maxHeartbeats 1000000 in
theorem swap_any (old y : Int) (h : MemB base F w g S) (hB : base ≤ w.heap.size) (hb : S.bad ≤ 4611686018427387904) (hn : (S.tr.length + 1) * 40 ≤ 140737488355328) :
    Calls Try.prog 25 #[.pointer (some ⟨g, 0, none⟩), .int .i64 addr, .int .i64 old, .int .i64 y] w (OpEnds base F g (S.swap addr old y) (.tuple #[.int .i64 (S.look addr).1, .bool (S.swaps addr old)]) w) := by
  have H := Mm.hid h
  obtain ⟨n, hnn⟩ : ∃ n, S.ws.length = n := ⟨_, rfl⟩
  have hwl := h.wl
  rw [hnn] at hwl
  clear h
  rcases look_cases S addr with ⟨i, x, rfl, hx, hp, h1, h2⟩ | ⟨v, e, he, h1, h2⟩
  · have HN := Mm.hid hnn
    have hi : i < n := by rw [← hnn]; exact (List.getElem?_eq_some_iff.1 hx).1
    have HX := Mm.hid hx
    have L1 := Mm.hid h1
    by_cases hxo : x = old
    · have L3 : Hid (S.swaps i old = true) := by show _ = _; simp [Cm.swaps, h1, hxo]
      have HS : Hid ((⟨S.ws.set i y, S.tr, S.looked i⟩ : Cm).note ⟨3, i, y, x, true⟩ = S.swap i old y) := by show _ = _; simp [Cm.swap, Cm.note, h1, L3.out]
      subst hxo
      clear h1 h2 hx hp hnn
      go_enter Try.func25, Try.ntmps25
      go_wp2_with fail
      refine (look_any base g F S i w H.out hb).mono ?_
      rintro e w1 ⟨rfl, hm, hf, hs⟩
      rw [L1.out]
      obtain ⟨gw, c, c0, hc, c1, c2, hset⟩ := hm.word (i := i) (x := x) HX.out (n := n) HN.out
      have M1 := Mm.hid (hset y).1
      have F1 := Mm.hid (hf.trans (hset y).2 fun _ _ h => h)
      have hB1 : base ≤ (w1.setCell ⟨gw, i, none⟩ (.int .i64 y)).heap.size := Nat.le_trans hB F1.out.size
      have HB1 := Mm.hid hB1
      clear hm hf hs hset hB1
      go_wp2_with fail
      refine (note_any base g F _ 3 i y x true _ M1.out HB1.out hn).mono ?_
      rintro e w2 ⟨rfl, ht⟩
      rw [HS.out] at ht
      have T2 := Mm.hid (Turns.after F1.out ht)
      clear ht
      go_wp2
      go_ret2
      exact ⟨by rw [L1.out, L3.out]; rfl, T2.out⟩
    · have L3 : Hid (S.swaps i old = false) := by show _ = _; simp [Cm.swaps, h1, hxo]
      have HS : Hid ((⟨S.ws, S.tr, S.looked i⟩ : Cm).note ⟨3, i, y, x, false⟩ = S.swap i old y) := by show _ = _; simp [Cm.swap, Cm.note, h1, L3.out]
      have hxb : (x == old) = false := beq_eq_false_iff_ne.2 hxo
      clear h1 h2 hx hp hnn hxo
      go_enter Try.func25, Try.ntmps25
      go_wp2_with fail
      refine (look_any base g F S i w H.out hb).mono ?_
      rintro e w1 ⟨rfl, hm, hf, hs⟩
      rw [L1.out]
      have M1 := Mm.hid hm
      have F1 := Mm.hid hf
      have hB1 : base ≤ w1.heap.size := by omega
      clear hm hf hs
      go_wp2_with fail
      refine (note_any base g F _ 3 i y x false _ M1.out hB1 hn).mono ?_
      rintro e w2 ⟨rfl, ht⟩
      rw [HS.out] at ht
      have T2 := Mm.hid (Turns.after F1.out ht)
      clear ht
      go_wp2
      go_ret2
      exact ⟨by rw [L1.out, L3.out]; rfl, T2.out⟩
  · have L3 : Hid (S.swaps addr old = false) := by show _ = _; simp [Cm.swaps, h1, he]
    have HS : Hid ((⟨S.ws, S.tr, S.looked addr⟩ : Cm).note ⟨3, addr, y, v, false⟩ = S.swap addr old y) := by show _ = _; simp [Cm.swap, Cm.note, h1, L3.out]
    have L1 := Mm.hid h1
    have heb : (e == 0) = false := beq_eq_false_iff_ne.2 he
    clear h1 h2 he hnn
    go_enter Try.func25, Try.ntmps25
    go_wp2_with fail
    refine (look_any base g F S addr w H.out hb).mono ?_
    rintro e' w1 ⟨rfl, hm, hf, hs⟩
    rw [L1.out]
    have M1 := Mm.hid hm
    have F1 := Mm.hid hf
    have hB1 : base ≤ w1.heap.size := by omega
    clear hm hf hs
    go_wp2_with fail
    refine (note_any base g F _ 3 addr y v false _ M1.out hB1 hn).mono ?_
    rintro e' w2 ⟨rfl, ht⟩
    rw [HS.out] at ht
    have T2 := Mm.hid (Turns.after F1.out ht)
    clear ht
    go_wp2
    go_ret2
    exact ⟨by rw [L1.out, L3.out]; rfl, T2.out⟩
end
end Go.Proofs.Ytkbobgblohohcaa

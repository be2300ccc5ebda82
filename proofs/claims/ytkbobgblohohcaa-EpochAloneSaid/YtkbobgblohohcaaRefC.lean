/- Walks: the document's memory: the four accesses (printed by gen_refc.py). -/
import Derived.Test.YtkbobgblohohcaaRefB
import Derived.Test.YtkbobgblohohcaaAcc
namespace Go.Proofs.Ytkbobgblohohcaa
open Go.RowKit Go.Mm Go.Cells
section
variable {base r lb : Nat} {F : Nat → Prop} {w : World} {S : Cm}
theorem RT.then' {F2 : Nat → Prop} {lb' : Nat} {S' : Cm} {w2 w3 : World} (hs : ∀ k, F2 k → F k ∨ w.heap.size ≤ k) (hf : Fr F w w2) (h : RT base F2 w2 r lb' S' w3) : RT base F w r lb' S' w3 := by
  obtain ⟨F3, m, hs3, hf3⟩ := h.out
  refine ⟨F3, m, fun k hk => ?_, hf.trans hf3 fun g hg h => ?_⟩
  · rcases hs3 k hk with h | h
    · exact hs k h
    · exact .inr (Nat.le_trans hf.size h)
  · rcases hs g h with h | h
    · exact h
    · omega

theorem RT.mono {S' : Cm} {w' : World} (h : RT base F w r lb S' w') {lb' : Nat} (hl : lb ≤ lb') : RT base F w r lb' S' w' := by
  obtain ⟨F', m, hs, hf⟩ := h.out
  exact ⟨F', m.mono hl, hs, hf⟩

set_option maxRecDepth 100000 in
set_option maxHeartbeats 2000000 in
theorem rload_any (addr : Int) (h : RMem base F w r lb S) (hB : base ≤ w.heap.size) (hb : S.bad ≤ 4611686018427387904) (hn : (S.tr.length + 1) * 40 ≤ 140737488355328) (hlb : (lb + 1) * 24 ≤ 140737488355328) :
    Calls Try.prog 105 #[.pointer (some ⟨r, 0, none⟩), .int .i64 addr] w (ROpE base F r (lb + 1) (S.load addr) (.tuple #[.int .i64 (S.look addr).1, .int .i64 (S.look addr).2]) w) := by
  have H := Mm.hid h
  have LB := Mm.hid hlb
  have HN := Mm.hid hn
  clear h hlb hn
  rcases look_cases S addr with ⟨i, x, rfl, hx, hp, h1, h2⟩ | ⟨v, e, he, h1, h2⟩
  · have HS : Hid ((⟨S.ws, S.tr, S.looked (i : Int)⟩ : Cm).note ⟨1, (i : Int), x, 0, true⟩ = S.load (i : Int)) := by show _ = _; simp [Cm.load, Cm.note, h1]
    have L1 := Mm.hid h1
    have HX := Mm.hid hx
    have hi := (List.getElem?_eq_some_iff.1 hx).1
    have HI := Mm.hid hi
    clear h1 h2 hx hp hi
    go_enter Try.func105, Try.ntmps105
    go_wp2_with fail
    refine (racc_any (i : Int) H.out hb LB.out).mono ?_
    rintro e w1 ⟨rfl, hm, hf⟩
    rw [L1.out]
    have M1 := Mm.hid hm
    have F1 := Mm.hid hf
    have hB1 := Nat.le_trans hB hf.size
    clear hm hf
    go_wp2_with fail
    refine (rnote_any 1 (i : Int) x 0 true M1.out hB1 HN.out).mono ?_
    rintro e w3 ⟨rfl, hr⟩
    rw [HS.out] at hr
    have FN := Mm.hid (RT.after F1.out (hr.mono (lb' := lb + 1) (Nat.le_succ lb)))
    clear hr
    go_wp2
    go_ret2
    exact ⟨by rw [L1.out]; rfl, FN.out⟩
  · have HS : Hid ((⟨S.ws, S.tr, S.looked addr⟩ : Cm).note ⟨1, addr, v, 0, false⟩ = S.load addr) := by show _ = _; simp [Cm.load, Cm.note, h1, he]
    have L1 := Mm.hid h1
    have heb : (e == 0) = false := beq_eq_false_iff_ne.2 he
    clear h1 h2
    have HE := Mm.hid he
    clear he
    go_enter Try.func105, Try.ntmps105
    go_wp2_with fail
    refine (racc_any addr H.out hb LB.out).mono ?_
    rintro e' w1 ⟨rfl, hm, hf⟩
    rw [L1.out]
    have M1 := Mm.hid hm
    have F1 := Mm.hid hf
    have hB1 := Nat.le_trans hB hf.size
    clear hm hf
    go_wp2_with fail
    refine (rnote_any 1 addr v 0 false M1.out hB1 HN.out).mono ?_
    rintro e' w3 ⟨rfl, hr⟩
    rw [HS.out] at hr
    have FN := Mm.hid (RT.after F1.out (hr.mono (lb' := lb + 1) (Nat.le_succ lb)))
    clear hr
    go_wp2
    go_ret2
    exact ⟨by rw [L1.out]; rfl, FN.out⟩

set_option maxRecDepth 100000 in
set_option maxHeartbeats 2000000 in
theorem rstore_any (addr : Int) (y : Int) (h : RMem base F w r lb S) (hB : base ≤ w.heap.size) (hb : S.bad ≤ 4611686018427387904) (hn : (S.tr.length + 1) * 40 ≤ 140737488355328) (hlb : (lb + 1) * 24 ≤ 140737488355328) :
    Calls Try.prog 89 #[.pointer (some ⟨r, 0, none⟩), .int .i64 addr, .int .i64 y] w (ROpE base F r (lb + 1) (S.store addr y) (.int .i64 (S.look addr).2) w) := by
  have H := Mm.hid h
  have LB := Mm.hid hlb
  have HN := Mm.hid hn
  clear h hlb hn
  rcases look_cases S addr with ⟨i, x, rfl, hx, hp, h1, h2⟩ | ⟨v, e, he, h1, h2⟩
  · have HS : Hid ((⟨S.ws.set i y, S.tr, S.looked (i : Int)⟩ : Cm).note ⟨2, (i : Int), y, x, true⟩ = S.store (i : Int) y) := by show _ = _; simp [Cm.store, Cm.note, h1]
    have L1 := Mm.hid h1
    have HX := Mm.hid hx
    have hi := (List.getElem?_eq_some_iff.1 hx).1
    have HI := Mm.hid hi
    clear h1 h2 hx hp hi
    go_enter Try.func89, Try.ntmps89
    go_wp2_with fail
    refine (racc_any (i : Int) H.out hb LB.out).mono ?_
    rintro e w1 ⟨rfl, hm, hf⟩
    rw [L1.out]
    have M1 := Mm.hid hm
    have F1 := Mm.hid hf
    have hB1 := Nat.le_trans hB hf.size
    clear hm hf
    go_wp2_with fail
    refine (rwrite_any i y M1.out HI.out hB1 LB.out).mono ?_
    rintro e w2 ⟨rfl, hr⟩
    obtain ⟨F2, m2, s2, f2⟩ := hr.out
    have M2 := Mm.hid m2
    have S2 := Mm.hid s2
    have F12 := Mm.hid f2
    have hB2 := Nat.le_trans hB1 f2.size
    clear hr m2 s2 f2
    go_wp2_with fail
    refine (rnote_any 2 (i : Int) y x true M2.out hB2 HN.out).mono ?_
    rintro e w3 ⟨rfl, hr⟩
    rw [HS.out] at hr
    have FN := Mm.hid (RT.after F1.out (RT.then' S2.out F12.out hr))
    clear hr
    go_wp2
    go_ret
    exact ⟨by rw [L1.out]; rfl, FN.out⟩
  · have HS : Hid ((⟨S.ws, S.tr, S.looked addr⟩ : Cm).note ⟨2, addr, y, v, false⟩ = S.store addr y) := by show _ = _; simp [Cm.store, Cm.note, h1, he]
    have L1 := Mm.hid h1
    have heb : (e == 0) = false := beq_eq_false_iff_ne.2 he
    clear h1 h2
    have HE := Mm.hid he
    clear he
    go_enter Try.func89, Try.ntmps89
    go_wp2_with fail
    refine (racc_any addr H.out hb LB.out).mono ?_
    rintro e' w1 ⟨rfl, hm, hf⟩
    rw [L1.out]
    have M1 := Mm.hid hm
    have F1 := Mm.hid hf
    have hB1 := Nat.le_trans hB hf.size
    clear hm hf
    go_wp2_with fail
    refine (rnote_any 2 addr y v false M1.out hB1 HN.out).mono ?_
    rintro e' w3 ⟨rfl, hr⟩
    rw [HS.out] at hr
    have FN := Mm.hid (RT.after F1.out (hr.mono (lb' := lb + 1) (Nat.le_succ lb)))
    clear hr
    go_wp2
    go_ret
    exact ⟨by rw [L1.out]; rfl, FN.out⟩

set_option maxRecDepth 100000 in
set_option maxHeartbeats 2000000 in
theorem radd_any (addr : Int) (y : Int) (h : RMem base F w r lb S) (hB : base ≤ w.heap.size) (hb : S.bad ≤ 4611686018427387904) (hn : (S.tr.length + 1) * 40 ≤ 140737488355328) (hlb : (lb + 1) * 24 ≤ 140737488355328) :
    Calls Try.prog 107 #[.pointer (some ⟨r, 0, none⟩), .int .i64 addr, .int .i64 y] w (ROpE base F r (lb + 1) (S.add addr y) (.tuple #[.int .i64 (S.look addr).1, .int .i64 (S.look addr).2]) w) := by
  have H := Mm.hid h
  have LB := Mm.hid hlb
  have HN := Mm.hid hn
  clear h hlb hn
  rcases look_cases S addr with ⟨i, x, rfl, hx, hp, h1, h2⟩ | ⟨v, e, he, h1, h2⟩
  · have HS : Hid ((⟨S.ws.set i (wrap64 (x + y)), S.tr, S.looked (i : Int)⟩ : Cm).note ⟨4, (i : Int), y, x, true⟩ = S.add (i : Int) y) := by show _ = _; simp [Cm.add, Cm.note, h1]
    have L1 := Mm.hid h1
    have HX := Mm.hid hx
    have hi := (List.getElem?_eq_some_iff.1 hx).1
    have HI := Mm.hid hi
    clear h1 h2 hx hp hi
    go_enter Try.func107, Try.ntmps107
    go_wp2_with fail
    refine (racc_any (i : Int) H.out hb LB.out).mono ?_
    rintro e w1 ⟨rfl, hm, hf⟩
    rw [L1.out]
    have M1 := Mm.hid hm
    have F1 := Mm.hid hf
    have hB1 := Nat.le_trans hB hf.size
    clear hm hf
    go_wp2_with fail
    refine (rwrite_any i (wrap64 (x + y)) M1.out HI.out hB1 LB.out).mono ?_
    rintro e w2 ⟨rfl, hr⟩
    obtain ⟨F2, m2, s2, f2⟩ := hr.out
    have M2 := Mm.hid m2
    have S2 := Mm.hid s2
    have F12 := Mm.hid f2
    have hB2 := Nat.le_trans hB1 f2.size
    clear hr m2 s2 f2
    go_wp2_with fail
    refine (rnote_any 4 (i : Int) y x true M2.out hB2 HN.out).mono ?_
    rintro e w3 ⟨rfl, hr⟩
    rw [HS.out] at hr
    have FN := Mm.hid (RT.after F1.out (RT.then' S2.out F12.out hr))
    clear hr
    go_wp2
    go_ret2
    exact ⟨by rw [L1.out]; rfl, FN.out⟩
  · have HS : Hid ((⟨S.ws, S.tr, S.looked addr⟩ : Cm).note ⟨4, addr, y, v, false⟩ = S.add addr y) := by show _ = _; simp [Cm.add, Cm.note, h1, he]
    have L1 := Mm.hid h1
    have heb : (e == 0) = false := beq_eq_false_iff_ne.2 he
    clear h1 h2
    have HE := Mm.hid he
    clear he
    go_enter Try.func107, Try.ntmps107
    go_wp2_with fail
    refine (racc_any addr H.out hb LB.out).mono ?_
    rintro e' w1 ⟨rfl, hm, hf⟩
    rw [L1.out]
    have M1 := Mm.hid hm
    have F1 := Mm.hid hf
    have hB1 := Nat.le_trans hB hf.size
    clear hm hf
    go_wp2_with fail
    refine (rnote_any 4 addr y v false M1.out hB1 HN.out).mono ?_
    rintro e' w3 ⟨rfl, hr⟩
    rw [HS.out] at hr
    have FN := Mm.hid (RT.after F1.out (hr.mono (lb' := lb + 1) (Nat.le_succ lb)))
    clear hr
    go_wp2
    go_ret2
    exact ⟨by rw [L1.out]; rfl, FN.out⟩

set_option maxRecDepth 100000 in
set_option maxHeartbeats 2000000 in
theorem rswap_any (addr : Int) (old : Int) (y : Int) (h : RMem base F w r lb S) (hB : base ≤ w.heap.size) (hb : S.bad ≤ 4611686018427387904) (hn : (S.tr.length + 1) * 40 ≤ 140737488355328) (hlb : (lb + 1) * 24 ≤ 140737488355328) :
    Calls Try.prog 106 #[.pointer (some ⟨r, 0, none⟩), .int .i64 addr, .int .i64 old, .int .i64 y] w (ROpE base F r (lb + 1) (S.swap addr old y) (.tuple #[.int .i64 (S.look addr).1, .bool (S.swaps addr old)]) w) := by
  have H := Mm.hid h
  have LB := Mm.hid hlb
  have HN := Mm.hid hn
  clear h hlb hn
  rcases look_cases S addr with ⟨i, x, rfl, hx, hp, h1, h2⟩ | ⟨v, e, he, h1, h2⟩
  · by_cases hxo : x = old
    · subst hxo
      have L3 : Hid (S.swaps i x = true) := by show _ = _; simp [Cm.swaps, h1]
      have HS : Hid ((⟨S.ws.set i y, S.tr, S.looked (i : Int)⟩ : Cm).note ⟨3, (i : Int), y, x, true⟩ = S.swap (i : Int) x y) := by show _ = _; simp [Cm.swap, L3.out, Cm.note, h1]
      have L1 := Mm.hid h1
      have HX := Mm.hid hx
      have hi := (List.getElem?_eq_some_iff.1 hx).1
      have HI := Mm.hid hi
      clear h1 h2 hx hp hi
      go_enter Try.func106, Try.ntmps106
      go_wp2_with fail
      refine (racc_any (i : Int) H.out hb LB.out).mono ?_
      rintro e w1 ⟨rfl, hm, hf⟩
      rw [L1.out]
      have M1 := Mm.hid hm
      have F1 := Mm.hid hf
      have hB1 := Nat.le_trans hB hf.size
      clear hm hf
      go_wp2_with fail
      refine (rwrite_any i y M1.out HI.out hB1 LB.out).mono ?_
      rintro e w2 ⟨rfl, hr⟩
      obtain ⟨F2, m2, s2, f2⟩ := hr.out
      have M2 := Mm.hid m2
      have S2 := Mm.hid s2
      have F12 := Mm.hid f2
      have hB2 := Nat.le_trans hB1 f2.size
      clear hr m2 s2 f2
      go_wp2_with fail
      refine (rnote_any 3 (i : Int) y x true M2.out hB2 HN.out).mono ?_
      rintro e w3 ⟨rfl, hr⟩
      rw [HS.out] at hr
      have FN := Mm.hid (RT.after F1.out (RT.then' S2.out F12.out hr))
      clear hr
      go_wp2
      go_ret2
      exact ⟨by rw [L1.out, L3.out]; rfl, FN.out⟩
    · have L3 : Hid (S.swaps i old = false) := by show _ = _; simp [Cm.swaps, h1, hxo]
      have hxb : (x == old) = false := beq_eq_false_iff_ne.2 hxo
      clear hxo
      have HS : Hid ((⟨S.ws, S.tr, S.looked (i : Int)⟩ : Cm).note ⟨3, (i : Int), y, x, false⟩ = S.swap (i : Int) old y) := by show _ = _; simp [Cm.swap, L3.out, Cm.note, h1]
      have L1 := Mm.hid h1
      have HX := Mm.hid hx
      have hi := (List.getElem?_eq_some_iff.1 hx).1
      have HI := Mm.hid hi
      clear h1 h2 hx hp hi
      go_enter Try.func106, Try.ntmps106
      go_wp2_with fail
      refine (racc_any (i : Int) H.out hb LB.out).mono ?_
      rintro e w1 ⟨rfl, hm, hf⟩
      rw [L1.out]
      have M1 := Mm.hid hm
      have F1 := Mm.hid hf
      have hB1 := Nat.le_trans hB hf.size
      clear hm hf
      go_wp2_with fail
      refine (rnote_any 3 (i : Int) y x false M1.out hB1 HN.out).mono ?_
      rintro e w3 ⟨rfl, hr⟩
      rw [HS.out] at hr
      have FN := Mm.hid (RT.after F1.out (hr.mono (lb' := lb + 1) (Nat.le_succ lb)))
      clear hr
      go_wp2
      go_ret2
      exact ⟨by rw [L1.out, L3.out]; rfl, FN.out⟩
  · have L3 : Hid (S.swaps addr old = false) := by show _ = _; simp [Cm.swaps, h1, he]
    have HS : Hid ((⟨S.ws, S.tr, S.looked addr⟩ : Cm).note ⟨3, addr, y, v, false⟩ = S.swap addr old y) := by show _ = _; simp [Cm.swap, L3.out, Cm.note, h1, he]
    have L1 := Mm.hid h1
    have heb : (e == 0) = false := beq_eq_false_iff_ne.2 he
    clear h1 h2
    have HE := Mm.hid he
    clear he
    go_enter Try.func106, Try.ntmps106
    go_wp2_with fail
    refine (racc_any addr H.out hb LB.out).mono ?_
    rintro e' w1 ⟨rfl, hm, hf⟩
    rw [L1.out]
    have M1 := Mm.hid hm
    have F1 := Mm.hid hf
    have hB1 := Nat.le_trans hB hf.size
    clear hm hf
    go_wp2_with fail
    refine (rnote_any 3 addr y v false M1.out hB1 HN.out).mono ?_
    rintro e' w3 ⟨rfl, hr⟩
    rw [HS.out] at hr
    have FN := Mm.hid (RT.after F1.out (hr.mono (lb' := lb + 1) (Nat.le_succ lb)))
    clear hr
    go_wp2
    go_ret2
    exact ⟨by rw [L1.out, L3.out]; rfl, FN.out⟩

end
end Go.Proofs.Ytkbobgblohohcaa

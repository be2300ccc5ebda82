/- Get, a hit, where the count of hits may wrap. -/
import Derived.Test.YthojgfnaanckeaaRoomP
namespace Go.Proofs.Ythojgfnaanckeaa
open Go.RowKit Go.Mm
set_option maxHeartbeats 2000000 in
theorem get_hit_w (b n : Nat) (S : St) (tag s o a : Int) (i k : Nat) (l : List Pl) (hand : Nat) (p : Pl) (w : World) (h : CacheB w b n S) (hl : 1 ≤ S.rows.length) (hl' : S.rows.length ≤ 256) (hn : n ≤ 8) (hi : spot S.rows.length s o a = i) (hr : S.rows[i]? = some (l, hand))
    (hf : find l s o a = some k) (hp : l[k]? = some p) (ht : p.tag = tag) :
    Calls Try.prog 19 #[.pointer (some ⟨b + 1, 0, none⟩), .int .i64 tag, .int .i64 s, .int .i64 o, .int .i64 a] w (GetEnds b n S p.allowed true { S with rows := S.rows.set i (l.set k { p with marked := true }, hand), hits := wrap64 (S.hits + 1) } w) := by
  obtain ⟨ph, ps, po, pa, pt, pal, pm⟩ := p
  simp only at ht
  subst ht
  have C := Mm.hid h
  have hilt : i < S.rows.length := (List.getElem?_eq_some_iff.1 hr).1
  have hklt : k < l.length := (List.getElem?_eq_some_iff.1 hp).1
  have R := Mm.hid hr
  have I := Mm.hid hi
  have FD := Mm.hid hf
  have P := Mm.hid hp
  have LL := Mm.hid (h.rows i _ hr).1
  have hkn : k < n := by rw [← LL.out]; exact hklt
  have b1 := h.cache.lt
  have b2 := (h.rows i _ hr).2.lt
  clear h hr hi hf hp hklt
  go_enter Try.func19, Try.ntmps19
  go_wp2_with fail
  refine (at_any b n S s o a i l hand _ C.out hl hl' hn I.out R.out).mono ?_
  rintro e w1 ⟨rfl, hb⟩
  rw [FD.out]
  have C1 := Mm.hid (C.out.below hb)
  have F1 := Mm.hid (Fr.of_below hb)
  have hsz := hb.size
  clear hb
  have c0 : w1.cell? ⟨b, i * 2, none⟩ = some (.slice (some ⟨b + 2 + i, 0, none⟩) n n) := C1.out.sets.cell (fQ_len n) (i := i) (j := 0) (by rw [List.getElem?_mapIdx, R.out]; rfl) (by decide) rfl
  have c1 : w1.cell? ⟨b + 1, 1, none⟩ = some (.int .i64 S.hits) := C1.out.cache.cell 1
  have c2 : w1.frozen? ⟨b + 1, 1, none⟩ = false := C1.out.cache.free 1
  have f4 : w1.cell? ⟨b + 2 + i, k * 7 + 4, none⟩ = some (.int .i64 pt) := ((C1.out.rows i _ R.out).2).cell fP_len P.out (j := 4) (by decide) rfl
  have f5 : w1.cell? ⟨b + 2 + i, k * 7 + 5, none⟩ = some (.bool pal) := ((C1.out.rows i _ R.out).2).cell fP_len P.out (j := 5) (by decide) rfl
  have f6 : w1.cell? ⟨b + 2 + i, k * 7 + 6, none⟩ = some (.bool pm) := ((C1.out.rows i _ R.out).2).cell fP_len P.out (j := 6) (by decide) rfl
  have f7 : w1.frozen? ⟨b + 2 + i, k * 7 + 6, none⟩ = false := ((C1.out.rows i _ R.out).2).free _
  simp only [ofFind]
  go_wp2
  go_ret2
  refine ⟨rfl, ((C1.out.cellset R.out P.out ⟨ph, ps, po, pa, pt, pal, true⟩ (.bool true) (by decide) rfl).hits (wrap64 (S.hits + 1))), ?_⟩
  exact ((F1.out.inC).set (p := ⟨b + 2 + i, k * 7 + 6, none⟩) _ ⟨by show b ≤ b + 2 + i; omega, by show b + 2 + i < _; omega⟩).set (p := ⟨b + 1, 1, none⟩) _ ⟨by show b ≤ b + 1; omega, by show b + 1 < _; omega⟩
end Go.Proofs.Ythojgfnaanckeaa

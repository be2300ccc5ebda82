/- Walks: the document's memory: an access, a write, a note, a piece. -/
import Derived.Test.YtkbobgblohohcaaRefP
namespace Go.Proofs.Ytkbobgblohohcaa
open Go.RowKit Go.Mm Go.Cells
section
variable {base r lb : Nat} {F : Nat → Prop} {w : World} {S : Cm}
def RAccE (base : Nat) (F : Nat → Prop) (r lb : Nat) (S : Cm) (addr : Int) (w : World) (e : Ending) (w' : World) : Prop :=
  e = .returned (.tuple #[.int .i64 (S.look addr).1, .int .i64 (S.look addr).2]) ∧ RMem base F w' r lb ⟨S.ws, S.tr, S.looked addr⟩ ∧ Fr F w w'
set_option maxRecDepth 100000 in
set_option maxHeartbeats 1000000 in
theorem racc_any (addr : Int) (h : RMem base F w r lb S) (hb : S.bad ≤ 4611686018427387904) (hlb : (lb + 1) * 24 ≤ 140737488355328) :
    Calls Try.prog 108 #[.pointer (some ⟨r, 0, none⟩), .int .i64 addr] w (RAccE base F r lb S addr w) := by
  have H := Mm.hid h
  obtain ⟨vL, vE, L, h1, _⟩ := h.out
  have hwl := h.wl
  have HF := Mm.hid h.fg
  obtain ⟨n, hn⟩ : ∃ n, S.ws.length = n := ⟨_, rfl⟩
  rw [hn] at h1 hwl
  have LB := Mm.hid hlb
  have B1 := Mm.hid h1
  have c0 : w.cell? ⟨r, 0, none⟩ = some (.int .i64 (n : Int)) := h1.cell 0
  have c3 : w.cell? ⟨r, 3, none⟩ = some (.int .i64 (S.bad : Int)) := h1.cell 3
  have d3 : w.frozen? ⟨r, 3, none⟩ = false := h1.free 3
  have hrl := h1.lt
  clear h1 hlb
  by_cases hin : 0 ≤ addr ∧ addr < (n : Int)
  · obtain ⟨ha0, ha1⟩ := hin
    obtain ⟨i, rfl⟩ := Int.eq_ofNat_of_zero_le ha0
    have hi : i < n := by omega
    obtain ⟨x, hx⟩ : ∃ x, S.ws[i]? = some x := ⟨_, List.getElem?_eq_getElem (by omega)⟩
    have HX := Mm.hid hx
    clear hx h
    by_cases hp : x = poison
    · obtain ⟨L1, L2⟩ := look_bad HX.out hp
      have fin : ∀ w1, Below w.heap.size w w1 → RAccE base F r lb S i w (.returned (.tuple #[.int .i64 x, .int .i64 141])) (w1.setCell ⟨r, 3, none⟩ (.int .i64 ((S.bad + 1 : Nat) : Int))) := fun w1 hb1 =>
        ⟨by rw [L1], by rw [L2]; exact (H.out.below hb1).setBad _, ((Fr.of_below hb1).mono fun _ h => h.elim).trans (Fr.setCell w1 ⟨r, 3, none⟩ _) fun k _ (hk : k = r) => hk ▸ HF.out⟩
      have FIN := Mm.hid fin
      clear L1 L2 fin hn
      have HP := Mm.hid hp
      go_enter Try.func108, Try.ntmps108
      go_wp2_with fail
      refine (rword_any H.out i x HX.out LB.out).mono ?_
      rintro e w1 ⟨rfl, hb1⟩
      have B1' := B1.out.keep (hb1.block r hrl)
      have c3 : w1.cell? ⟨r, 3, none⟩ = some (.int .i64 (S.bad : Int)) := B1'.cell 3
      have d3 : w1.frozen? ⟨r, 3, none⟩ = false := B1'.free 3
      have FN := Mm.hid (FIN.out w1 hb1)
      have hpb : (x == -4611686018427387904) = true := beq_iff_eq.2 HP.out
      clear hb1 B1' FIN hp
      go_wp2
      go_ret2
      exact FN.out
    · obtain ⟨L1, L2⟩ := look_good HX.out hp
      have fin : ∀ w1, Below w.heap.size w w1 → RAccE base F r lb S i w (.returned (.tuple #[.int .i64 x, .int .i64 0])) w1 := fun w1 hb1 =>
        ⟨by rw [L1], by rw [L2]; exact H.out.below hb1, (Fr.of_below hb1).mono fun _ h => h.elim⟩
      have FIN := Mm.hid fin
      have hpb : (x == -4611686018427387904) = false := beq_eq_false_iff_ne.2 hp
      clear L1 L2 fin hp hn
      go_enter Try.func108, Try.ntmps108
      go_wp2_with fail
      refine (rword_any H.out i x HX.out LB.out).mono ?_
      rintro e w1 ⟨rfl, hb1⟩
      have FN := Mm.hid (FIN.out w1 hb1)
      clear hb1 FIN
      go_wp2
      go_ret2
      exact FN.out
  · obtain ⟨L1, L2⟩ := look_out (S := S) (addr := addr) (by rw [hn]; exact hin)
    have fin : RAccE base F r lb S addr w (.returned (.tuple #[.int .i64 0, .int .i64 140])) (w.setCell ⟨r, 3, none⟩ (.int .i64 ((S.bad + 1 : Nat) : Int))) :=
      ⟨by rw [L1], by rw [L2]; exact H.out.setBad _, (Fr.setCell w ⟨r, 3, none⟩ _).mono (fun k (hk : k = r) => hk ▸ HF.out)⟩
    have FIN := Mm.hid fin
    clear L1 L2 fin hn h
    by_cases h0 : addr < 0
    · clear hin
      go_enter Try.func108, Try.ntmps108
      go_wp2
      go_ret2
      exact FIN.out
    · have hge : (n : Int) ≤ addr := by omega
      clear hin
      go_enter Try.func108, Try.ntmps108
      go_wp2
      go_ret2
      exact FIN.out
def ROpE (base : Nat) (F : Nat → Prop) (r lb : Nat) (S' : Cm) (v : Value) (w : World) (e : Ending) (w' : World) : Prop := e = .returned v ∧ RT base F w r lb S' w'
set_option maxRecDepth 100000 in
set_option maxHeartbeats 1000000 in
theorem rwrite_any (i : Nat) (y : Int) (h : RMem base F w r lb S) (hi : i < S.ws.length) (hB : base ≤ w.heap.size) (hlb : (lb + 1) * 24 ≤ 140737488355328) :
    Calls Try.prog 109 #[.pointer (some ⟨r, 0, none⟩), .int .i64 (i : Int), .int .i64 y] w (ROpE base F r (lb + 1) ⟨S.ws.set i y, S.tr, S.bad⟩ (.tuple #[]) w) := by
  have H := Mm.hid h
  obtain ⟨vL, vE, L, h1, h2, h3, h4, h5, h6, h7⟩ := h.out
  have LK := Mm.hid (h6.set hi y)
  obtain ⟨m, hm⟩ : ∃ m, L.length = m := ⟨_, rfl⟩
  have h2' := h2
  rw [hm] at h2'
  obtain ⟨A, c, rfl, hc, _, _⟩ := own_slice h2'
  have B1 := Mm.hid h1
  have OL := Mm.hid h2
  have OL' := Mm.hid h2'
  have OE := Mm.hid h3
  have FL := Mm.hid h4
  have FE := Mm.hid h5
  have H7 := Mm.hid h7
  have LM := Mm.hid hm
  have c1 : w.cell? ⟨r, 1, none⟩ = some (.slice A m c) := h1.cell 1
  have NE := Mm.hid (own_ne h2 h1 (by decide))
  have HO : Hid (∀ u ∈ (#[Value.int .i64 (i : Int), .int .i64 1, .int .i64 y] : Array Value).toList, u.oneCell' = true) := by intro u hu; simp at hu; rcases hu with rfl | rfl | rfl <;> rfl
  have hm24 : (m + 1) * 24 ≤ 140737488355328 := by omega
  clear h h1 h2 h2' h3 h4 h5 h6 h7 hm hi
  go_enter Try.func109, Try.ntmps109
  go_wp2_with (at_builtin; go_must (refine wp_ape1 base rfl (.tmp 10) (.tmp 14) 139 175 (.agg #[.int .i64 0, .int .i64 0, .int .i64 0]) 3 24 #[.int .i64 (i : Int), .int .i64 1, .int .i64 y] rfl Try.underlying139 info175 rfl (by decide) (by decide) (.slice A m c) m _ rfl rfl rfl HO.out OL'.out (Below.refl _ _) hB hm24 ?_; intro v1 w7 k1 k2 k3 k4; have hb1 := B1.out.keep (k3.block r B1.out.lt (fun e => NE.out e.symm)); have e1 : w7.cell? ⟨r, 1, none⟩ = some (.slice A m c) := hb1.cell 1; have e2 : w7.frozen? ⟨r, 1, none⟩ = false := hb1.free 1; have FN := Mm.hid (rlog_fin (e := ⟨(i : Int), 1, y⟩) H.out B1.out OL.out OE.out FL.out FE.out H7.out (Fr.refl _ _) (by rw [LM.out]; exact k1) k3 (k4.imp id fun h => by obtain ⟨b, q1, q2, _⟩ := h; exact ⟨b, q1, q2⟩) LK.out (by simp)); have K1 := Mm.hid k1; clear k1 k2 k3 k4 hb1; obtain ⟨A1, c1, hv, _⟩ := own_slice K1.out; subst hv))
  all_goals go_end0
  all_goals exact ⟨rfl, FN.out⟩
end
end Go.Proofs.Ytkbobgblohohcaa

/- Walks: the memory of cells: what an access looks at, and its note. -/
import Derived.Test.YtkbobgblohohcaaProg
import Derived.Test.YtkbobgblohohcaaCm
import Derived.Test.YtkbobgblohohcaaRows2
import Derived.Outline
import Derived.BigQuiet
import Derived.Deep.QuietTactic
import Derived.Deep.RegionHeld3
namespace Go.Proofs.Ytkbobgblohohcaa
open Go.RowKit Go.Mm Go.Cells
theorem info3 : (Try.prog.info? 3).map (fun i => (i.zero, i.size, i.bytes)) = some (some (.int .i64 0), 1, 8) := by kernel_rfl
theorem info47 : (Try.prog.info? 47).map (fun i => (i.zero, i.size, i.bytes)) = some (some (.agg #[.int .i8 0, .int .i64 0, .int .i64 0, .int .i64 0, .bool false]), 5, 40) := by kernel_rfl
def fAcc (x : Acc) : List Value := [.int .i8 x.k, .int .i64 x.a, .int .i64 x.v, .int .i64 x.o, .bool x.good]
theorem fAcc_len (x : Acc) : (fAcc x).length = 5 := rfl
/-- a memory in memory: its blocks are among F, from base on -/
structure MemB (base : Nat) (F : Nat → Prop) (w : World) (g : Nat) (S : Cm) : Prop where mk ::
  out : ∃ vW vT, Blk w g 131 #[vW, vT, .int .i64 (S.bad : Int)] ∧ w.ownsRow base 3 1 vW S.ws.length (iL S.ws) ∧ w.ownsRow base 47 5 vT S.tr.length (S.tr.flatMap fAcc) ∧ (∀ b, vW.ownBlock = some b → F b) ∧ ∀ b, vT.ownBlock = some b → F b
  fg : F g
  lt : ∀ k, F k → base ≤ k ∧ k < w.heap.size
  wl : S.ws.length ≤ 65536
theorem MemB.fr {base g : Nat} {F T : Nat → Prop} {w w1 : World} {S : Cm} (h : MemB base F w g S) (hf : Fr T w w1) (hT : ∀ k, F k → ¬ T k) : MemB base F w1 g S := by
  obtain ⟨vW, vT, h1, h2, h3, h4, h5⟩ := h.out
  exact ⟨⟨vW, vT, hf.blk h1 (hT g h.fg), hf.own h2 (fun b hb => hT b (h4 b hb)), hf.own h3 (fun b hb => hT b (h5 b hb)), h4, h5⟩, h.fg, fun k hk => ⟨(h.lt k hk).1, Nat.lt_of_lt_of_le (h.lt k hk).2 hf.size⟩, h.wl⟩
theorem MemB.below {base g : Nat} {F : Nat → Prop} {w w1 : World} {S : Cm} (h : MemB base F w g S) (hb : Below w.heap.size w w1) : MemB base F w1 g S := h.fr (Fr.of_below hb) fun _ _ h => h
/-- what an operation leaves -/
structure Turns (base : Nat) (F : Nat → Prop) (w : World) (g : Nat) (S' : Cm) (w' : World) : Prop where mk ::
  out : ∃ F' : Nat → Prop, MemB base F' w' g S' ∧ (∀ k, F' k → F k ∨ w.heap.size ≤ k) ∧ Fr F w w'
def LookEnds (base : Nat) (F : Nat → Prop) (g : Nat) (S : Cm) (addr : Int) (w : World) (e : Ending) (w' : World) : Prop :=
  e = .returned (.tuple #[.int .i64 (S.look addr).1, .int .i64 (S.look addr).2]) ∧ MemB base F w' g ⟨S.ws, S.tr, S.looked addr⟩ ∧ Fr F w w' ∧ w'.heap.size = w.heap.size
theorem MemB.setBad {base g : Nat} {F : Nat → Prop} {w : World} {S : Cm} (h : MemB base F w g S) (n : Nat) : MemB base F (w.setCell ⟨g, 2, none⟩ (.int .i64 (n : Int))) g ⟨S.ws, S.tr, n⟩ := by
  obtain ⟨vW, vT, h1, h2, h3, h4, h5⟩ := h.out
  have hf := Fr.setCell w ⟨g, 2, none⟩ (.int .i64 (n : Int))
  refine ⟨⟨vW, vT, ?_, hf.own h2 (fun b hb (e : b = g) => own_ne h2 h1 (by decide) (by rw [hb, e])), hf.own h3 (fun b hb (e : b = g) => own_ne h3 h1 (by decide) (by rw [hb, e])), h4, h5⟩, h.fg, fun k hk => ⟨(h.lt k hk).1, by have := (h.lt k hk).2; simp [World.setCell]; exact this⟩, h.wl⟩
  exact h1.set 2 _
theorem look_out {S : Cm} {addr : Int} (h : ¬ (0 ≤ addr ∧ addr < S.ws.length)) : S.look addr = (0, 140) ∧ S.looked addr = S.bad + 1 := by
  have : S.look addr = (0, 140) := if_neg h
  exact ⟨this, by unfold Cm.looked; rw [this]; rfl⟩
theorem getD_of {l : List Int} {i : Nat} {x : Int} (h : l[i]? = some x) : l.getD i 0 = x := by rw [List.getD_eq_getElem?_getD, h]; rfl
theorem look_bad {S : Cm} {i : Nat} {x : Int} (hx : S.ws[i]? = some x) (hp : x = poison) : S.look i = (x, 141) ∧ S.looked i = S.bad + 1 := by
  have h : i < S.ws.length := (List.getElem?_eq_some_iff.1 hx).1
  have : S.look i = (x, 141) := by
    unfold Cm.look
    rw [if_pos ⟨by omega, by omega⟩, Int.toNat_natCast, getD_of hx, if_pos hp, hp]
  exact ⟨this, by unfold Cm.looked; rw [this]; rfl⟩
theorem look_good {S : Cm} {i : Nat} {x : Int} (hx : S.ws[i]? = some x) (hp : x ≠ poison) : S.look i = (x, 0) ∧ S.looked i = S.bad := by
  have h : i < S.ws.length := (List.getElem?_eq_some_iff.1 hx).1
  have : S.look i = (x, 0) := by
    unfold Cm.look
    rw [if_pos ⟨by omega, by omega⟩, Int.toNat_natCast, getD_of hx, if_neg hp]
  exact ⟨this, by unfold Cm.looked; rw [this]; rfl⟩
set_option maxHeartbeats 1000000 in
theorem look_any (base g : Nat) (F : Nat → Prop) (S : Cm) (addr : Int) (w : World) (h : MemB base F w g S) (hb : S.bad ≤ 4611686018427387904) :
    Calls Try.prog 71 #[.pointer (some ⟨g, 0, none⟩), .int .i64 addr] w (LookEnds base F g S addr w) := by
  have H := Mm.hid h
  obtain ⟨vW, vT, h1, h2, h3, h4, h5⟩ := h.out
  have hwl := h.wl
  have HF := Mm.hid h.fg
  obtain ⟨n, hn⟩ : ∃ n, S.ws.length = n := ⟨_, rfl⟩
  rw [hn] at h2 hwl
  obtain ⟨A, c, rfl, hc, _, _⟩ := own_slice h2
  have c0 : w.cell? ⟨g, 0, none⟩ = some (.slice A n c) := h1.cell 0
  have c2 : w.cell? ⟨g, 2, none⟩ = some (.int .i64 (S.bad : Int)) := h1.cell 2
  have d2 : w.frozen? ⟨g, 2, none⟩ = false := h1.free 2
  by_cases hin : 0 ≤ addr ∧ addr < (n : Int)
  · obtain ⟨ha0, ha1⟩ := hin
    obtain ⟨i, rfl⟩ := Int.eq_ofNat_of_zero_le ha0
    have hi : i < n := by omega
    obtain ⟨gw, cap, hA, _, _, _, hcell, _⟩ := own_blk h2 (by omega)
    injection hA with e1 _ e3
    subst e1
    subst e3
    obtain ⟨x, hx⟩ : ∃ x, S.ws[i]? = some x := ⟨_, List.getElem?_eq_getElem (by omega)⟩
    have f1 : w.cell? ⟨gw, i, none⟩ = some (.int .i64 x) := hcell i _ (iL_get hx)
    have HX := Mm.hid hx
    clear hx
    clear hcell h1 h2 h3 h4 h5 h
    by_cases hp : x = poison
    · obtain ⟨L1, L2⟩ := look_bad HX.out hp
      have fin : LookEnds base F g S i w (.returned (.tuple #[.int .i64 x, .int .i64 141])) (w.setCell ⟨g, 2, none⟩ (.int .i64 ((S.bad + 1 : Nat) : Int))) := by
        refine ⟨by rw [L1], by rw [L2]; exact H.out.setBad _, (Fr.setCell w ⟨g, 2, none⟩ _).mono (fun k (hk : k = g) => hk ▸ HF.out), by simp [World.setCell]⟩
      have FIN := Mm.hid fin
      clear L1 L2 fin hn
      subst hp
      unfold poison at f1
      go_enter Try.func71, Try.ntmps71
      go_wp2
      go_ret2
      exact FIN.out
    · obtain ⟨L1, L2⟩ := look_good HX.out hp
      have fin : LookEnds base F g S i w (.returned (.tuple #[.int .i64 x, .int .i64 0])) w := by
        refine ⟨by rw [L1], by rw [L2]; exact H.out, Fr.refl _ _, rfl⟩
      have FIN := Mm.hid fin
      have hpb : (x == -4611686018427387904) = false := beq_eq_false_iff_ne.2 hp
      clear L1 L2 fin hp hn
      go_enter Try.func71, Try.ntmps71
      go_wp2
      go_ret2
      exact FIN.out
  · obtain ⟨L1, L2⟩ := look_out (S := S) (addr := addr) (by rw [hn]; exact hin)
    have fin : LookEnds base F g S addr w (.returned (.tuple #[.int .i64 0, .int .i64 140])) (w.setCell ⟨g, 2, none⟩ (.int .i64 ((S.bad + 1 : Nat) : Int))) := by
      refine ⟨by rw [L1], by rw [L2]; exact H.out.setBad _, (Fr.setCell w ⟨g, 2, none⟩ _).mono (fun k (hk : k = g) => hk ▸ HF.out), by simp [World.setCell]⟩
    have FIN := Mm.hid fin
    clear L1 L2 fin hn h h1 h2 h3 h4 h5
    by_cases h0 : addr < 0
    · clear hin
      go_enter Try.func71, Try.ntmps71
      go_wp2
      go_ret2
      exact FIN.out
    · have hge : (n : Int) ≤ addr := by omega
      clear hin
      go_enter Try.func71, Try.ntmps71
      go_wp2
      go_ret2
      exact FIN.out
end Go.Proofs.Ytkbobgblohohcaa

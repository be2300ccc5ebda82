/- Walk: the document's cache: Put. -/
import Derived.Test.YthojgfnaanckeaaActsG
import Derived.Deep.RegionLaw
namespace Go.Proofs.Ythojgfnaanckeaa
open Go.RowKit Go.Mm
def RPutEnds (B r n : Nat) (v : Value) (S' : St) (w : World) (e : Ending) (w' : World) : Prop :=
  e = .returned (.tuple #[]) ∧ ∃ R' v', RB w' B r n R' v' ∧ Sim S' R' ∧ Fr (RX r v) w w' ∧ (∀ b, v'.ownBlock = some b → v.ownBlock = some b ∨ w.heap.size ≤ b)
set_option maxHeartbeats 2000000 in
theorem rput_again (B r n : Nat) (S : St) (R : RS) (v : Value) (tag s o a : Int) (al : Bool) (j : Nat) (w : World) (h : RB w B r n R v) (sim : Sim S R) (hu : Uniq S) (hc : Clean S) (hn : R.ds.length ≤ 2048) (hj : ofR R.ds s o a = some j) :
    Calls Try.prog 23 #[.pointer (some ⟨r + 1, 0, none⟩), .int .i64 tag, .int .i64 s, .int .i64 o, .int .i64 a, .bool al] w (RPutEnds B r n v (putS n S tag s o a al) w) := by
  obtain ⟨A, c, rfl, hcc, _, _⟩ := own_slice h.list
  obtain ⟨len, hlen⟩ : ∃ len, R.ds.length = len := ⟨_, rfl⟩
  have hlow := h.low
  have hcl : len ≤ c := by rw [← hlen]; exact hcc
  obtain ⟨d, hdj⟩ := ofR_get hj
  have hjl : j < len := by rw [← hlen]; exact lt_of_get hdj
  have G2 := Mm.hid (sim_again (n := n) (tag := tag) (al := al) sim hu hc hj hdj)
  have BA := Mm.hid ((Below.refl w.heap.size w).alloc (Nat.le_refl _) (.cells #[.int .i64 s, .int .i64 o, .int .i64 a] 77))
  have H := Mm.hid (h.below BA.out)
  have LN := Mm.hid hlen
  have J := Mm.hid hj
  have D := Mm.hid hdj
  rw [hlen] at hn
  clear h sim hu hc hj hlen hcc hdj
  go_enter Try.func23, Try.ntmps23
  go_wp2_with fail
  refine (of_any B r n R _ s o a _ (by exact H.out) (by rw [LN.out]; exact hn)).mono ?_
  rintro e w1 ⟨rfl, hb⟩
  rw [J.out]
  have H1 := Mm.hid (H.out.below hb)
  have B1 := Mm.hid (BA.out.trans (hb.mono (by simp)))
  have hl := H1.out.list
  rw [LN.out] at hl
  obtain ⟨ad, c', hv, hown, hlt, _, e0, e1, e2, e3, e4, e5, e6, e7⟩ := rb_cells hl D.out LN.out
  injection hv with hA _ hc2
  subst hA hc2
  have hge := (hl.lt _ hown).1
  have hne : ¬ (ad.add (j * 8)).block = r + 1 := by rw [add_block]; omega
  have hne' : ¬ r + 1 = (ad.add (j * 8)).block := by rw [add_block]; omega
  have c3 : w1.cell? ⟨r + 1, 3, none⟩ = some (.slice (some ad) len c) := by have := H1.out.box.cell 3; rwa [LN.out] at this
  have f5 := rb_free hl j 5
  have f6 := rb_free hl j 6
  have kI : (0 : Int) ≤ (j : Int) := by omega
  have kC : (j : Int) < (len : Int) := by omega
  have HO := Mm.hid hown
  clear hb hl e0 e1 e2 e3 e4 e7 hown
  simp only [ofFind]
  go_wp2
  go_end0
  have LN' := LN.out
  have Z1 := H1.out.setD (c := c) { d with tag := tag } (j := 5) (u := .int .i64 tag) D.out (by decide) (by decide) rfl
  have hd2 : (R.ds.set j { d with tag := tag })[j]? = some { d with tag := tag } := List.getElem?_set_self (by rw [LN']; exact hjl)
  have Z1' := Z1
  rw [show R.ds.length = (R.ds.set j { d with tag := tag }).length from (List.length_set ..).symm] at Z1'
  have Z2 := Z1'.setD (c := c) { d with tag := tag, al := al } (j := 6) (u := .bool al) hd2 (by decide) (by decide) rfl
  have e9 : (R.ds.set j { d with tag := tag }).set j { d with tag := tag, al := al } = R.ds.set j { d with tag := tag, al := al } := List.set_set ..
  simp only [e9, List.length_set] at Z2
  refine ⟨rfl, ⟨R.hands, R.ds.set j { d with tag := tag, al := al }, R.hits, R.misses, R.ev⟩, _, Z2, G2.out, ?_, fun b hb => .inl hb⟩
  refine (((Fr.of_below B1.out).mono (T := RX r _) (fun _ h => h.elim)).trans (rx_list (j * 8) 5 _ ?_) fun g _ e => e).trans (rx_list (j * 8) 6 _ ?_) fun g _ e => e
  · rw [LN']; exact HO.out
  · rw [LN']; exact HO.out
end Go.Proofs.Ythojgfnaanckeaa

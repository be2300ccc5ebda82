/- Walk: Ups: how many names have a list. -/
import Derived.Test.YthjldlgmfplngaaRings
import Derived.Test.YthjldlgmfplngaaKn
namespace Go.Reach
def inB {α : Type} [DecidableEq α] (x : α) (l : List α) : Bool := decide (x ∈ l)
theorem inB_yes {α : Type} [DecidableEq α] {x : α} {l : List α} (h : x ∈ l) : inB x l = true := decide_eq_true h
theorem inB_no {α : Type} [DecidableEq α] {x : α} {l : List α} (h : x ∉ l) : inB x l = false := decide_eq_false h
theorem inB_nil {α : Type} [DecidableEq α] (x : α) : inB x [] = false := inB_no (by simp)
theorem inB_snoc {α : Type} [DecidableEq α] {x y : α} {l : List α} (h : x ≠ y) : inB x (l ++ [y]) = inB x l := by unfold inB; simp [h]
end Go.Reach
namespace Go.Proofs.Ythjldlgmfplngaa
open Go.RowKit Go.Mm Go.Maps Go.Reach Go.WideMaps
section
variable {P : Program} {kt : TypeId}
/-- a map of just these names -/
structure MapL (P : Program) (kt : TypeId) (w : World) (b : Nat) (L : List ByteArray) : Prop where mk ::
  out : ∃ D, w.ownsMap P kt hR b L.length D ∧ (∀ x, has D (κs x) = inB x L) ∧ Maps.size D = L.length
section
variable {w w' : World} {b : Nat} {L : List ByteArray}
theorem MapL.made (w : World) : MapL P kt (w.alloc (.map #[] 0)) w.heap.size [] :=
  ⟨_, World.ownsMap_made w P kt hR, fun x => by rw [inB_nil]; rfl, rfl⟩
theorem MapL.lt (h : MapL P kt w b L) : b < w.heap.size := by
  obtain ⟨D, h1, _⟩ := h.out
  exact h1.lt
theorem MapL.keep (h : MapL P kt w b L) (hk : w'.heap[b]? = w.heap[b]?) : MapL P kt w' b L := by
  obtain ⟨D, ⟨es, clock, hb, r⟩, h2⟩ := h.out
  exact ⟨D, ⟨es, clock, hk.trans hb, r⟩, h2⟩
theorem MapL.fr {T : Nat → Prop} (h : MapL P kt w b L) (hf : Fr T w w') (hT : ¬ T b) : MapL P kt w' b L := h.keep (hf.block b h.lt hT)
theorem MapL.look_ok (h : MapL P kt w b L) (K : Keyed P kt) {t e : TypeId} (ht : P.underlying t = some (.map kt e)) {z : Value} (hz : (zeroValue e).run P w = .ok z w) {y : ByteArray} {key : Value} (hkey : keyOf P kt key = some (κs y)) :
    ∃ v, (Instr.lookup t (.map (some b)) key true).run P w = .ok (.tuple #[v, .bool (inB y L)]) w := by
  obtain ⟨D, h1, h2, _⟩ := h.out
  obtain ⟨v, ps, hr, hv⟩ := h1.look_ok K ht hz (zd := .held z) (zp := []) rfl hkey
  exact ⟨v, by rw [hr, h2 y]⟩
theorem MapL.len (h : MapL P kt w b L) {t e : TypeId} (ht : P.underlying t = some (.map kt e)) (ty : TypeId) : (Builtin.len_ #[t] ty #[.map (some b)]).run P w = .ok (.int .i64 (L.length : Nat)) w := by
  obtain ⟨D, h1, _, h3⟩ := h.out
  rw [h1.len ht ty, h3]
theorem MapL.put (h : MapL P kt w b L) (K : Keyed P kt) {t e : TypeId} (ht : P.underlying t = some (.map kt e)) (hn : L.length < maxLen) {y : ByteArray} {key : Value} (hkey : keyOf P kt key = some (κs y)) (hy : y ∉ L) (v : Value) :
    ∃ w', (Instr.mapUpdate t (.map (some b)) key v).run P w = .ok () w' ∧ MapL P kt w' b (L ++ [y]) ∧ w.grownBy w' (some b) := by
  obtain ⟨D, h1, h2, h3⟩ := h.out
  obtain ⟨w', hr, h4, h5⟩ := h1.update K ht hn (val := v) (d := .held v) (ps := []) hkey rfl
  refine ⟨w', hr, ⟨D.put (κs y) (.held v), by rw [List.length_append]; exact h4, fun x => ?_, ?_⟩, h5⟩
  · by_cases e : x = y
    · subst e
      rw [has_put_same h1.isMap (κs_lit x), inB_yes (by simp)]
    · have hne : κs x ≠ κs y := fun h => e (κs_inj x y h)
      rw [has_put_other hne, h2 x, inB_snoc e]
  · rw [size_put (h1.tidy K), h2 y, h3, inB_no hy]; simp
theorem _root_.Go.Mm.MapB.len {β : Type} {κ : β → Lit} {w : World} {b n : Nat} {M : β → Option Value} (h : MapB P kt κ w b n M) {t e : TypeId} (ht : P.underlying t = some (.map kt e)) : ∃ c : Nat, ∀ ty, (Builtin.len_ #[t] ty #[.map (some b)]).run P w = .ok (.int .i64 (c : Nat)) w := by
  obtain ⟨D, h1, _⟩ := h.out
  exact ⟨_, fun ty => h1.len ht ty⟩
end
end
theorem make74 (k : Int) (w : World) : (Instr.makeMap 74 (some (.int .i64 k))).run Try.prog w = .ok (.map (some w.heap.size)) (w.alloc (.map #[] 0)) := by kernel_rfl
set_option maxRecDepth 100000 in
set_option maxHeartbeats 1000000 in
theorem ups_look (base bb mb n : Nat) (M : ByteArray → Option Value) (ps : List Pr) (x : ByteArray) (hx : x.size ≤ maxLen) (w : World) (h : UpB base bb mb n M ps w) :
    Calls Try.prog 60 #[.string x, .pointer (some ⟨bb, 0, none⟩)] w fun e w' => e = .returned ((M x).getD nilS) ∧ w' = w := by
  have KY := Mm.hid (keyOf_string_mk (P := Try.prog) (k := 9) Try.underlying9 hx)
  have H := Mm.hid h
  have e0 : w.cell? ⟨bb, 0, none⟩ = some (.map (some mb)) := h.box.cell 0
  have lk : (Instr.lookup 74 (.map (some mb)) (.string x) false).run Try.prog w = .ok ((M x).getD nilS) w := h.lin.map.look law9 Try.underlying74 (zero33 w) KY.out
  clear h hx
  go_enter Try.func60, Try.ntmps60
  go_wp2_with fail
  go_ret
  exact ⟨rfl, rfl⟩
theorem ups_next (wA : World) (base bb mb n : Nat) (M : ByteArray → Option Value) (ps : List Pr) (h0 : UpB base bb mb n M ps wA) (U : List ByteArray) (hU : ∀ x ∈ U, x.size ≤ maxLen) : NextAt 60 #[.pointer (some ⟨bb, 0, none⟩)] (line ps) (KI wA) U := by
  intro d G w x hI hx
  have h : UpB base bb mb n M ps w := h0.keep fun k hk => hI.2.2 k (h0.glt k hk).2
  refine (ups_look base bb mb n M ps x (hU x hx) w h).mono ?_
  rintro e w' ⟨rfl, rfl⟩
  obtain ⟨A, c, hv, hc, hA, hR⟩ := own_slice (h.lin.row x)
  refine ⟨A, _, c, G, by rw [hv], hc, hR, hI, fun k hk => .inl hk, fun hn ad ha => ?_, Fr.refl _ _⟩
  have hb := hA ad ha
  have := (own_lt (h0.lin.row x) hb).2
  exact ⟨(own_lt (h.lin.row x) hb).2, .inl (by rw [hI.1]; exact this)⟩
/-- Close, over the lines, and nothing touched -/
theorem ups_close (wA : World) (base bb mb n : Nat) (M : ByteArray → Option Value) (ps : List Pr) (h0 : UpB base bb mb n M ps wA) (hs : Szs ps) (x : ByteArray) (hx : x.size ≤ maxLen) (hl : ps.length * 32 + 16 ≤ 140737488355328) (A : Option Addr) (c : Nat) (hr : Rd wA A 1 1 [.string x]) :
    Calls Try.prog 19 #[.slice A 1 c, .func (.func 60) #[] #[.pointer (some ⟨bb, 0, none⟩)]] wA fun e w' => ∃ A m c, e = .returned (.slice A m c) ∧ Hid (Fr (fun _ => False) wA w') := by
  refine (close_any 60 #[.pointer (some ⟨bb, 0, none⟩)] (enters_of Try.func60 (by kernel_rfl) rfl) (line ps) (all ps x) (KI wA) (ki_inv wA) (ups_next wA base bb mb n M ps h0 _ (all_sz hs hx)) (all_sz hs hx) all_line (fun y _ => by
    have := line_len ps y
    rw [all_len]; omega) [x] (fun y hy => by rw [List.mem_singleton.1 hy]; exact List.mem_cons_self ..) (by simp) A 1 c (fun k => k < wA.heap.size) wA hr ⟨rfl, Nat.le_refl _, fun _ _ => rfl⟩).mono ?_
  rintro e w' ⟨v, L, G, rfl, _, ho, hi, _, _, hf⟩
  obtain ⟨A', c', rfl, _, _, _⟩ := own_slice ho
  exact ⟨A', _, c', rfl, ki_fr hi hf⟩
/-- the names that stand ahead -/
def firsts (ps : List Pr) : List ByteArray := puts [] (ps.map Pr.a)
theorem firsts_snoc (ps : List Pr) (p : Pr) : firsts (ps ++ [p]) = put1 (firsts ps) p.a := by simp [firsts, puts_snoc]
theorem firsts_len (ps : List Pr) : (firsts ps).length ≤ ps.length := by
  have := nodup_le (l := firsts ps) (U := ps.map Pr.a) (nodup_puts List.nodup_nil) fun x hx => by
    rcases mem_puts.1 hx with h | h
    · simp at h
    · exact h
  simpa using this
set_option maxRecDepth 100000 in
set_option maxHeartbeats 2000000 in
theorem ups_any (ps : List Pr) (A : Option Addr) (N c : Nat) (w : World) (hr : Rd w A N 2 (ps.flatMap fPr)) (hN : ps.length = N) (hs : Szs ps) (hl : N * 32 + 16 ≤ 140737488355328) :
    Calls Try.prog 57 #[.slice A N c] w fun e w' => ∃ am, e = .returned (.map (some am)) ∧ Hid (MapL Try.prog 9 w' am (firsts ps) ∧ Fr (fun _ => False) w w') := by
  have hmf : ∀ (fn : Fn) (first cap : Array Value) (w : World), (Instr.makeFunc fn first cap).run Try.prog w = .ok (.func fn first cap) w := fun _ _ _ _ => rfl
  have hmk := make74
  have LC := Mm.hid (lines_any ps A N c w hr hN hs.a (by omega))
  have R := Mm.hid hr
  have HS := Mm.hid hs
  have HN := Mm.hid hN
  clear hr hN hs
  go_enter Try.func57, Try.ntmps57
  go_upto_region 2 with (go_at_call 46; refine LC.out.mono ?_; rintro e w1 ⟨mb, rfl, h1⟩)
  obtain ⟨n, M, hn, LB, F1⟩ := h1.out.out
  obtain ⟨bb, hbb⟩ : ∃ bb, w1.heap.size = bb := ⟨_, rfl⟩
  obtain ⟨w2, hw2⟩ : ∃ w2, w1.alloc (.cells #[.map (some mb)] 74) = w2 := ⟨_, rfl⟩
  have F2 : Hid (Fr (fun _ => False) w1 w2) := by show Fr _ _ _; rw [← hw2]; exact Fr.alloc (fun _ => False) w1 _
  have UB : Hid (UpB w.heap.size bb mb n M ps w2) := by
    refine ⟨?_, LB.fr F2.out fun _ h => h.elim, by rw [← hbb]; exact F1.size⟩
    rw [← hw2, ← hbb]
    exact Blk.new w1 #[.map (some mb)] 74
  have e0 : w2.cell? ⟨bb, 0, none⟩ = some (.map (some mb)) := UB.out.box.cell 0
  obtain ⟨q, hq⟩ := UB.out.lin.map.len Try.underlying74
  obtain ⟨am, ham⟩ : ∃ am, w2.heap.size = am := ⟨_, rfl⟩
  obtain ⟨w3, hw3⟩ : ∃ w3, w2.alloc (.map #[] 0) = w3 := ⟨_, rfl⟩
  have ST : Hid (MapL Try.prog 9 w3 am (firsts (ps.take 0)) ∧ UpB w.heap.size bb mb n M ps w3 ∧ Fr (fun _ => False) w w3) := by
    have f3 := Fr.alloc (fun _ => False) w2 (.map #[] 0)
    refine ⟨?_, ?_, ?_⟩
    · rw [← hw3, ← ham]; exact MapL.made w2
    · rw [hw3] at f3; exact UB.out.keep fun k hk => f3.block k (UB.out.glt k hk).2 fun h => h
    · rw [hw3] at f3; exact (F1.trans F2.out fun _ _ h => h).trans f3 fun _ _ h => h
  have hamw : w.heap.size ≤ am := by rw [← ham]; exact Nat.le_trans F1.size F2.out.size
  have hbam : bb ≠ am := by have := UB.out.box.lt; omega
  have hmam : mb ≠ am := by have := UB.out.lin.map.lt; omega
  rw [hbb, hw2]
  clear LB F1 h1 UB
  go_upto_region 4 with (fail)
  clear e0 hq hw3 hw2
  go_loopw [6, 7, 8, 16] (fun _ _ _ iv wr => ∃ j : Nat, j ≤ N ∧ iv = .int .i64 (j : Nat) ∧ Hid (MapL Try.prog 9 wr am (firsts (ps.take j)) ∧ UpB w.heap.size bb mb n M ps wr ∧ Fr (fun _ => False) w wr)) (fun _ _ _ iv _ => N - (intOf iv).toNat)
  case atStart => exact ⟨0, Nat.zero_le _, rfl, ST.out⟩
  case round =>
    obtain ⟨j, hj, rfl, HQ⟩ := hrel
    clear ST
    obtain ⟨hm, hu, hf⟩ := HQ.out
    by_cases hlt : j < N
    · obtain ⟨p, hp⟩ : ∃ p, ps[j]? = some p := ⟨_, List.getElem?_eq_getElem (by rw [HN.out]; exact hlt)⟩
      obtain ⟨ad, rfl, _, f0, f1⟩ := rd_pr (hf.rd R.out fun _ _ h => h) HN.out hp
      have hpa := HS.out.a p (List.mem_of_getElem? hp)
      have KY := Mm.hid (keyOf_string_mk (P := Try.prog) (k := 9) Try.underlying9 hpa)
      have FT : Hid (firsts (ps.take (j + 1)) = put1 (firsts (ps.take j)) p.a) := by show _ = _; rw [take_snoc' hp, firsts_snoc]
      have FL : Hid ((firsts (ps.take j)).length ≤ j) := by
        show _ ≤ _
        have := firsts_len (ps.take j)
        rw [List.length_take] at this
        omega
      obtain ⟨qb, hqb⟩ : ∃ qb, wr.heap.size = qb := ⟨_, rfl⟩
      obtain ⟨w5, hw5⟩ : ∃ w5, wr.alloc (.cells #[.string p.a, .string p.b] 37) = w5 := ⟨_, rfl⟩
      have F5 : Hid (Fr (fun _ => False) wr w5) := by show Fr _ _ _; rw [← hw5]; exact Fr.alloc (fun _ => False) wr _
      have B5 : Hid (Blk w5 qb 37 #[.string p.a, .string p.b]) := by show Blk _ _ _ _; rw [← hw5, ← hqb]; exact Blk.new wr _ _
      have M5 := Mm.hid (hm.fr F5.out fun h => h)
      have U5 : Hid (UpB w.heap.size bb mb n M ps w5) := hu.keep fun k hk => F5.out.block k (hu.glt k hk).2 fun h => h
      have HF5 := Mm.hid (hf.trans F5.out fun _ _ h => h)
      obtain ⟨v, lk⟩ := M5.out.look_ok law9 Try.underlying74 (zero33 w5) KY.out
      have HP := Mm.hid hp
      clear hm hu hf hp HQ hpa
      by_cases hin : p.a ∈ firsts (ps.take j)
      · have hd : inB p.a (firsts (ps.take j)) = true := inB_yes hin
        rw [hd] at lk
        have NX : Hid (MapL Try.prog 9 w5 am (firsts (ps.take (j + 1))) ∧ UpB w.heap.size bb mb n M ps w5 ∧ Fr (fun _ => False) w w5) := by
          refine ⟨?_, U5.out, HF5.out⟩
          rw [FT.out, put1_in hin]
          exact M5.out
        have e0 : w5.cell? ⟨qb, 0, none⟩ = some (.string p.a) := B5.out.cell 0
        go_wp2_with fail
        go_roundw
        case rel => exact ⟨j + 1, by omega, by go_num, NX⟩
        case measure => simp [intOf] <;> omega
      · have hd : inB p.a (firsts (ps.take j)) = false := inB_no hin
        rw [hd] at lk
        have e0 : w5.cell? ⟨qb, 0, none⟩ = some (.string p.a) := B5.out.cell 0
        go_upto_region 8 with (fail)
        obtain ⟨W9, hW9⟩ : ∃ W9, (w5.alloc (.cells #[.string p.a] 9)).drew = W9 := ⟨_, rfl⟩
        have F9 : Hid (Fr (fun _ => False) w5 W9) := by show Fr _ _ _; rw [← hW9]; exact (Fr.alloc (fun _ => False) w5 _).trans (Fr.drew (fun _ => False) _) fun _ _ h => h
        have RL : Hid (Rd W9 (some ⟨w5.heap.size, 0, none⟩) 1 1 [.string p.a]) := by
          show Rd _ _ _ _ _
          rw [← hW9]
          exact (Fr.drew (fun _ => False) _).rd (Rd.lit w5 #[.string p.a] 9 1 rfl) fun _ _ h => h
        have U9 : Hid (UpB w.heap.size bb mb n M ps W9) := U5.out.keep fun k hk => F9.out.block k (U5.out.glt k hk).2 fun h => h
        have M9 := Mm.hid (M5.out.fr F9.out fun h => h)
        have B9 := Mm.hid (F9.out.blk B5.out fun h => h)
        have HF9 := Mm.hid (HF5.out.trans F9.out fun _ _ h => h)
        have CC := Mm.hid (ups_close W9 _ _ _ _ _ _ U9.out HS.out p.a (HS.out.a p (List.mem_of_getElem? HP.out)) (by rw [HN.out]; exact hl) _ 1 RL.out)
        have FLM : Hid ((firsts (ps.take j)).length < maxLen) := by show _ < _; have := FL.out; unfold maxLen; omega
        have HW9 := Mm.hid hW9
        have hqn : qb ≠ w5.heap.size := Nat.ne_of_lt B5.out.lt
        have hqn' := hqn.symm
        have d3 : (w5.alloc (.cells #[.string p.a] 9)).cell? ⟨qb, 0, none⟩ = some (.string p.a) := (Fr.alloc (fun _ => False) w5 _).cell e0 fun h => h
        clear lk f0 f1 hW9 hw5 hqb
        go_region_law (go_simp; go_at_call 19; rw [HW9.out]; refine CC.out.mono ?_; rintro e w7 ⟨Ac, mc, cc, rfl, h7⟩; obtain ⟨wb, hrun, m1, g1⟩ := (M9.out.fr h7.out fun h => h).put law9 Try.underlying74 FLM.out KY.out hin (.slice Ac mc cc); have e5 : w7.cell? ⟨qb, 0, none⟩ = some (.string p.a) := (h7.out.blk B9.out fun h => h).cell 0; have M1 := Mm.hid m1; have G1 := Mm.hid g1; clear m1 g1)
        all_goals (
          have NX : Hid (MapL Try.prog 9 wb am (firsts (ps.take (j + 1))) ∧ UpB w.heap.size bb mb n M ps wb ∧ Fr (fun _ => False) w wb) := by
            have hg := Fr.grown G1.out
            have hu7 : UpB w.heap.size bb mb n M ps w7 := U9.out.keep fun k hk => h7.out.block k (U9.out.glt k hk).2 fun h => h
            refine ⟨by rw [FT.out, put1_out hin]; exact M1.out, hu7.keep fun k hk => hg.block k (hu7.glt k hk).2 fun e => ?_, (HF9.out.trans h7.out fun _ _ h => h).trans hg fun k hk e => by injection e with e; omega⟩
            injection e with e
            subst e
            rcases hk with rfl | hk
            · exact hbam rfl
            · rcases hk with rfl | ⟨x, hb⟩
              · exact hmam rfl
              · have hm7 := M9.out.fr h7.out fun h => h
                obtain ⟨D, ⟨es, clock, hh, _⟩, _⟩ := hm7.out
                rcases (hu7.lin.row x).2 with ⟨h0, _⟩ | ⟨g, cap, cur, h0, _, hgg, _⟩
                · rw [h0] at hb; cases hb
                · rw [h0] at hb
                  have : g = am := by simpa [Value.ownBlock] using hb
                  subst this
                  rw [hgg] at hh
                  cases hh
          clear e0 e5 d3 hrun
          go_wp2_with fail
          go_roundw
          case rel => exact ⟨j + 1, by omega, by go_num, NX⟩
          case measure => simp [intOf] <;> omega)
    · have hjn : j = N := by omega
      subst hjn
      have FIN : Hid (MapL Try.prog 9 wr am (firsts ps) ∧ Fr (fun _ => False) w wr) := by
        rw [List.take_of_length_le (by rw [HN.out]; exact Nat.le_refl _)] at hm
        exact ⟨hm, hf⟩
      clear hm hu hf HQ
      go_wp2_with fail
      go_ret
      exact ⟨am, rfl, FIN⟩
end Go.Proofs.Ythjldlgmfplngaa

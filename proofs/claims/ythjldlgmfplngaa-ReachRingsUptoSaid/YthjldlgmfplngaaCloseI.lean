/- Walk: Close, of numbers, over any next. -/
import Derived.Test.YthjldlgmfplngaaPutI
namespace Go.Proofs.Ythjldlgmfplngaa
open Go.RowKit Go.Mm Go.Maps Go.Reach Go.WideMaps
/-- what next owes: it answers what x leads to, and keeps I, which hangs on the blocks G -/
def NextAti (g : Nat) (lb : Array Value) (f : Int → List Int) (I : List Int → (Nat → Prop) → World → Prop) (U : List Int) : Prop :=
  ∀ d G w x, I d G w → x ∈ U → (d ++ [x]).Nodup → (∀ y ∈ d, y ∈ U) → Calls Try.prog g (#[.int .i64 x] ++ lb) w fun e w' => ∃ A n c G', e = .returned (.slice A n c) ∧ n ≤ c ∧ Hid (Rd w' A n 1 (iL (f x)) ∧ I (d ++ [x]) G' w' ∧ (∀ k, G' k → G k ∨ w.heap.size ≤ k) ∧ (0 < n → ∀ ad, A = some ad → ad.block < w'.heap.size ∧ (G' ad.block ∨ w.heap.size ≤ ad.block)) ∧ Fr G w w')
structure Invi (I : List Int → (Nat → Prop) → World → Prop) : Prop where
  keep : ∀ d G w w', I d G w → w.heap.size ≤ w'.heap.size → (∀ k, G k → w'.heap[k]? = w.heap[k]?) → I d G w'
  lt : ∀ d G w k, I d G w → G k → k < w.heap.size
/-- Close under way: so many have had their turn -/
structure CloRi (f : Int → List Int) (l0 : List Int) (I : List Int → (Nat → Prop) → World → Prop) (G0 : Nat → Prop) (bs bl mb : Nat) (w : World) (k : Nat) (wr : World) : Prop where mk ::
  out : ∃ v G, ClSi w.heap.size bs bl mb v (cl f l0 k) wr ∧ I ((cl f l0 k).take k) G wr ∧ (∀ j, G j → ¬ ClC bs bl mb v j) ∧ (∀ j, G j → G0 j ∨ w.heap.size ≤ j) ∧ Fr G0 w wr
def CloEi (f : Int → List Int) (l0 : List Int) (I : List Int → (Nat → Prop) → World → Prop) (G0 : Nat → Prop) (w : World) (e : Ending) (w' : World) : Prop :=
  ∃ v L G, e = .returned v ∧ Whole f l0 L ∧ w'.ownsRow w.heap.size 3 1 v L.length (iL L) ∧ I L G w' ∧ (∀ j, G j → G0 j ∨ w.heap.size ≤ j) ∧ (∀ b, v.ownBlock = some b → ¬ G b) ∧ Fr G0 w w'
section
variable {f : Int → List Int} {l0 : List Int} {I : List Int → (Nat → Prop) → World → Prop} {G0 : Nat → Prop} {bs bl mb k : Nat} {w wr w1 w2 : World}
theorem cloi_step (hI : Invi I) {x : Int} {v : Value} {G G' : Nat → Prop} (hx : (cl f l0 k)[k]? = some x) (c1 : ClSi w.heap.size bs bl mb v (cl f l0 k) wr) (hd : ∀ j, G j → ¬ ClC bs bl mb v j) (h0 : ∀ j, G j → G0 j ∨ w.heap.size ≤ j) (hf : Fr G0 w wr)
    (i1 : I ((cl f l0 k).take k ++ [x]) G' w1) (s1 : ∀ j, G' j → G j ∨ wr.heap.size ≤ j) (f1 : Fr G wr w1) (p : PutEi w.heap.size bs bl mb v (puts (cl f l0 k) (f x)) w1 (.returned (.tuple #[])) w2) : CloRi f l0 I G0 bs bl mb w (k + 1) w2 := by
  obtain ⟨_, v', c2, o2, f2⟩ := p
  have hk := (List.getElem?_eq_some_iff.1 hx).1
  have e1 : cl f l0 (k + 1) = puts (cl f l0 k) (f x) := cl_step hx
  have e2 : (cl f l0 (k + 1)).take (k + 1) = (cl f l0 k).take k ++ [x] := by
    have hp := cl_succ (f := f) (l0 := l0) k
    obtain ⟨t, ht⟩ := hp
    rw [← ht, List.take_append_of_le_length (by omega), List.take_add_one, hx]
    rfl
  have hdC : ∀ j, G' j → ¬ ClC bs bl mb v j := fun j hj hc => by
    rcases s1 j hj with h | h
    · exact hd j h hc
    · have := c1.clt j hc; omega
  have lt1 := hI.lt _ _ _ 0 i1
  refine ⟨v', G', e1 ▸ c2, e2 ▸ hI.keep _ _ _ _ i1 f2.size (fun j hj => f2.block j (hI.lt _ _ _ j i1 hj) (hdC j hj)), fun j hj hc => ?_, fun j hj => ?_, ?_⟩
  · have hl := hI.lt _ _ _ j i1 hj
    exact hdC j hj (clc_sub o2 j hl hc)
  · rcases s1 j hj with h | h
    · exact h0 j h
    · exact .inr (Nat.le_trans hf.size h)
  · have f1' : Fr G0 w w1 := hf.trans f1 fun j hj hG => by
      rcases h0 j hG with h | h
      · exact h
      · omega
    exact f1'.trans f2 fun j hj hc => by have := c1.cge j hc; omega
end
theorem clsi_start (w : World) : ClSi w.heap.size (w.heap.size + 1) (w.heap.size + 2) w.heap.size (.slice none 0 0) [] (((w.alloc (.map #[] 0)).alloc (.cells #[.map (some w.heap.size)] 61)).alloc (.cells #[.slice none 0 0] 22)) := by
  have b1 := Blk.new (w.alloc (.map #[] 0)) #[.map (some w.heap.size)] 61
  have b2 := Blk.new ((w.alloc (.map #[] 0)).alloc (.cells #[.map (some w.heap.size)] 61)) #[.slice none 0 0] 22
  rw [show (w.alloc (.map #[] 0)).heap.size = w.heap.size + 1 from by simp] at b1
  rw [show ((w.alloc (.map #[] 0)).alloc (.cells #[.map (some w.heap.size)] 61)).heap.size = w.heap.size + 2 from by simp] at b2
  refine ⟨b1.keep (Below.heap_alloc _ _ _ (by simp; try omega)), b2, ?_, ⟨rfl, .inl ⟨rfl, rfl⟩⟩, by omega, by omega, Nat.le_refl _⟩
  refine ((MapB.made (P := Try.prog) (kt := 3) (κ := κi) w).keep ?_).to fun x => ?_
  · exact (Below.heap_alloc _ _ _ (by simp; try omega)).trans (Below.heap_alloc _ _ _ (by simp; try omega))
  · unfold setMi; rw [memO_out (by simp)]
theorem run_neq_funci (fn : Fn) (a b : Array Value) (w : World) : (binOp .neq 27 (.func fn a b) .nilFunc).run Try.prog w = .ok (.bool true) w := by kernel_rfl
section
variable {f : Int → List Int} {l0 : List Int} {I : List Int → (Nat → Prop) → World → Prop} {G0 : Nat → Prop} {bs bl mb k : Nat} {w wr w1 : World}
/-- what next answered is put on the list -/
theorem cloi_put (hI : Invi I) {U : List Int} (hU : ∀ x ∈ U, Okn x) (hf : ∀ x ∈ U, ∀ y ∈ f x, y ∈ U) (hroom : ∀ x ∈ U, (U.length + (f x).length) * 8 ≤ 140737488355328) {x : Int} (hxU : x ∈ U) (hm : (cl f l0 k).length ≤ U.length) {v : Value} {G G' : Nat → Prop} (hx : (cl f l0 k)[k]? = some x) (c1 : ClSi w.heap.size bs bl mb v (cl f l0 k) wr) (hd : ∀ j, G j → ¬ ClC bs bl mb v j) (h0 : ∀ j, G j → G0 j ∨ w.heap.size ≤ j) (hfr : Fr G0 w wr)
    {A : Option Addr} {n c : Nat} (hr : Rd w1 A n 1 (iL (f x))) (i1 : I ((cl f l0 k).take k ++ [x]) G' w1) (s1 : ∀ j, G' j → G j ∨ wr.heap.size ≤ j) (hA : 0 < n → ∀ ad, A = some ad → ad.block < w1.heap.size ∧ (G' ad.block ∨ wr.heap.size ≤ ad.block)) (f1 : Fr G wr w1) :
    Calls Try.prog 41 #[.slice A n c, .pointer (some ⟨bs, 0, none⟩), .pointer (some ⟨bl, 0, none⟩)] w1 fun e w2 => e = .returned (.tuple #[]) ∧ Hid (CloRi f l0 I G0 bs bl mb w (k + 1) w2) := by
  have hdw : ∀ j, (G' j ∨ wr.heap.size ≤ j) → ¬ ClC bs bl mb v j := fun j hj hc => by
    rcases hj with h | h
    · rcases s1 j h with h | h
      · exact hd j h hc
      · have := c1.clt j hc; omega
    · have := c1.clt j hc; omega
  have hsz : w.heap.size ≤ w1.heap.size := Nat.le_trans hfr.size f1.size
  refine (puti_any _ _ _ _ v _ (f x) A n c w1 (c1.fr f1 hd) hr (fun hn ad ha => hdw _ (hA hn ad ha).2) (fun y hy => hU y (hf x hxU y hy)) hsz ?_).mono fun e w2 p => ⟨p.1, cloi_step hI hx c1 hd h0 hfr i1 s1 f1 ⟨rfl, p.2⟩⟩
  have := hroom x hxU
  have := Nat.mul_le_mul_right 16 (Nat.add_le_add_right hm (f x).length)
  omega
theorem cloi_done {v : Value} {G : Nat → Prop} (hk : (cl f l0 k).length ≤ k) (c1 : ClSi w.heap.size bs bl mb v (cl f l0 k) wr) (i1 : I ((cl f l0 k).take k) G wr) (hd : ∀ j, G j → ¬ ClC bs bl mb v j) (h0' : ∀ j, G j → G0 j ∨ w.heap.size ≤ j) (hfr : Fr G0 w wr) : CloEi f l0 I G0 w (.returned v) wr :=
  ⟨v, cl f l0 k, G, rfl, ⟨k, rfl, hk⟩, c1.row, by rw [List.take_of_length_le hk] at i1; exact i1, h0', fun b hb hg => hd b hg (.inr (.inr (.inr hb))), hfr⟩
end
set_option maxRecDepth 100000 in
set_option maxHeartbeats 1000000 in
theorem closei_any (g : Nat) (lb : Array Value) (eg : ∀ args w, (callFunc g args).run Try.prog w = .ok (.enter g args) w) (f : Int → List Int) (U : List Int) (I : List Int → (Nat → Prop) → World → Prop) (hI : Invi I) (hnext : NextAti g lb f I U)
    (hU : ∀ x ∈ U, Okn x) (hf : ∀ x ∈ U, ∀ y ∈ f x, y ∈ U) (hroom : ∀ x ∈ U, (U.length + (f x).length) * 8 ≤ 140737488355328) (l0 : List Int) (h0 : ∀ x ∈ l0, x ∈ U) (hr0 : l0.length * 8 ≤ 140737488355328) (A : Option Addr) (n c : Nat) (G0 : Nat → Prop) (w : World) (hr : Rd w A n 1 (iL l0)) (hi : I [] G0 w) :
    Calls Try.prog 15 #[.slice A n c, .func (.func g) #[] lb] w (CloEi f (puts [] l0) I G0 w) := by
  have hmm := @run_makeMap Try.prog
  have hnf := run_neq_funci
  have hmf : ∀ (fn : Fn) (first cap : Array Value) (w : World), (Instr.makeFunc fn first cap).run Try.prog w = .ok (.func fn first cap) w := fun _ _ _ _ => rfl
  have R := Mm.hid hr
  have II := Mm.hid hI
  have NX := Mm.hid hnext
  have HU := Mm.hid hU
  have HF := Mm.hid hf
  have HR := Mm.hid hroom
  have H0 := Mm.hid h0
  have R0 := Mm.hid hr0
  have HI := Mm.hid hi
  have CS := Mm.hid (clsi_start w)
  have f3 : Fr (fun _ => False) w (((w.alloc (.map #[] 0)).alloc (.cells #[.map (some w.heap.size)] 61)).alloc (.cells #[.slice none 0 0] 22)) := ((Fr.alloc _ w _).trans (Fr.alloc (fun _ => False) _ _) fun _ _ h => h).trans (Fr.alloc (fun _ => False) _ _) fun _ _ h => h
  have F3 := Mm.hid f3
  have hs3 : (((w.alloc (.map #[] 0)).alloc (.cells #[.map (some w.heap.size)] 61)).alloc (.cells #[.slice none 0 0] 22)).heap.size = w.heap.size + 3 := by simp
  have HS3 := Mm.hid hs3
  clear hr hI hnext hU hf hroom h0 hi f3 hs3 hr0
  go_enter Try.func15, Try.ntmps15
  go_upto_region 4 with (fail)
  obtain ⟨w3, hw3⟩ : ∃ w3, ((w.alloc (.map #[] 0)).alloc (.cells #[.map (some w.heap.size)] 61)).alloc (.cells #[.slice none 0 0] 22) = w3 := ⟨_, rfl⟩
  rw [hw3] at CS F3 HS3 ⊢
  clear hw3
  have hn : l0.length = n := by have := R.out.1; rw [iL_len] at this; omega
  have R3 := Mm.hid (F3.out.rd R.out fun _ _ h => h)
  have RA3 : Hid (0 < n → ∀ ad, A = some ad → ¬ ClC (w.heap.size + 1) (w.heap.size + 2) w.heap.size (.slice none 0 0) ad.block) := fun hp ad ha hc => by
    obtain ⟨ad', ha', hl, _⟩ := R.out.2 hp
    rw [ha] at ha'; injection ha' with ha'; subst ha'
    have := CS.out.cge _ hc
    omega
  have CY : Hid (∀ y ∈ l0, Okn y) := fun y hy => HU.out y (H0.out y hy)
  have RL : Hid ((([] : List Int).length + l0.length) * 8 ≤ 140737488355328) := by show _ ≤ _; simpa using R0.out
  have HB3 : Hid (w.heap.size ≤ w3.heap.size) := by show _ ≤ _; rw [HS3.out]; omega
  clear R0
  have P1 := Mm.hid (puti_any _ _ _ _ _ _ _ _ _ c w3 CS.out R3.out RA3.out CY.out HB3.out RL.out)
  have ND : Hid (puts [] l0).Nodup := nodup_puts List.nodup_nil
  go_wp2_with (go_at_call 41; refine P1.out.mono ?_; rintro e w' ⟨rfl, v1, c1, o1, f1⟩)
  have H0' : Hid (∀ y ∈ puts [] l0, y ∈ U) := fun y hy => by
    rcases mem_puts.1 hy with h | h
    · simp at h
    · exact H0.out y h
  have ST : Hid (CloRi f (puts [] l0) I G0 (w.heap.size + 1) (w.heap.size + 2) w.heap.size w 0 w') := by
    show CloRi _ _ _ _ _ _ _ _ _ _
    have f4 : Fr (fun _ => False) w w' := F3.out.trans f1 fun j hj hc => by
      have := CS.out.cge j hc; omega
    refine ⟨v1, G0, c1, II.out.keep _ _ _ _ HI.out f4.size (fun j hj => f4.block j (II.out.lt _ _ _ j HI.out hj) (by simp)), fun j hj hc => ?_, fun j hj => .inl hj, f4.mono fun _ h => h.elim⟩
    have := c1.cge j hc
    have := II.out.lt _ _ _ j HI.out hj
    omega
  clear c1 o1 f1 P1 CS F3 HS3 R3 RA3 CY RL HB3 R H0 HI
  generalize puts [] l0 = L0 at *
  go_loopw [8] (fun i wr => ∃ k : Nat, k ≤ (cl f L0 k).length ∧ i = .int .i64 (k : Nat) ∧ Hid (CloRi f L0 I G0 (w.heap.size + 1) (w.heap.size + 2) w.heap.size w k wr)) (fun i _ => U.length - (intOf i).toNat)
  case atStart => exact ⟨0, Nat.zero_le _, rfl, ST.out⟩
  case round =>
    obtain ⟨k, hk, rfl, HK⟩ := hrel
    clear ST
    obtain ⟨v', G, c', i', d', s', f'⟩ := HK.out.out
    obtain ⟨m, hm⟩ : ∃ m, (cl f L0 k).length = m := ⟨_, rfl⟩
    have hlen : m ≤ U.length := by rw [← hm]; exact cl_len ND.out H0'.out HF.out k
    have hrow := c'.row
    rw [hm] at hrow
    obtain ⟨A1, c1, rfl, hc1, q1, q2⟩ := own_slice hrow
    have d1 : wr.cell? ⟨w.heap.size + 1 + 1, 0, none⟩ = some (.slice A1 m c1) := c'.lst.cell 0
    have C := Mm.hid c'
    have II' := Mm.hid i'
    have D' := Mm.hid d'
    have S' := Mm.hid s'
    have F' := Mm.hid f'
    have HM := Mm.hid hm
    rw [hm] at hk
    clear c' i' d' s' f' hm HK
    by_cases hlt : k < m
    · obtain ⟨x, hx⟩ : ∃ x, (cl f L0 k)[k]? = some x := ⟨_, List.getElem?_eq_getElem (by rw [HM.out]; exact hlt)⟩
      have XU : Hid (x ∈ U) := cl_in H0'.out HF.out k x (List.mem_of_getElem? hx)
      obtain ⟨ad, rfl, _, f1⟩ := q2.cell (iL_get hx)
      have HX := Mm.hid hx
      have ND2 : ((cl f L0 k).take k ++ [x]).Nodup := by
        have h := cl_nodup (f := f) ND.out k
        rw [← take_snoc' hx]
        exact h.sublist (List.take_sublist _ _)
      have DU2 : ∀ y ∈ (cl f L0 k).take k, y ∈ U := fun y hy => cl_in H0'.out HF.out k y ((List.take_sublist _ _).subset hy)
      have NC := Mm.hid (NX.out _ G wr x II'.out XU.out ND2 DU2)
      clear ND2 DU2
      have HL : Hid ((cl f L0 k).length ≤ U.length) := by show _ ≤ _; rw [HM.out]; exact hlen
      have LG : Hid (k + 1 ≤ (cl f L0 (k + 1)).length) := by
        show _ ≤ _
        have := (cl_succ (f := f) (l0 := L0) k).length_le
        rw [HM.out] at this
        omega
      have hk9 : k < 140737488355328 := by
        have := HR.out x XU.out
        omega
      clear hx hrow q1 q2
      go_wp2_with (first | (go_at_fn g; refine NC.out.mono ?_; rintro e w1 ⟨A2, n2, c2, G', rfl, hc2, h2⟩) | (go_at_call 41; obtain ⟨r2, i2, s2, t2, f2⟩ := h2.out; refine (cloi_put II.out HU.out HF.out HR.out XU.out HL.out HX.out C.out D'.out S'.out F'.out r2 i2 s2 t2 f2).mono ?_; clear r2 i2 s2 t2 f2; rintro e w2 ⟨rfl, RL⟩))
      go_roundw
      case rel => exact ⟨k + 1, LG.out, by go_num, RL⟩
      case measure => simp [intOf] <;> omega
    · have hkm : k = m := by omega
      subst hkm
      have FN := Mm.hid (cloi_done (by rw [HM.out]; exact Nat.le_refl _) C.out II'.out D'.out S'.out F'.out)
      go_wp2_with fail
      go_ret
      exact FN.out
end Go.Proofs.Ythjldlgmfplngaa

/- The document's memory: a log, plain and in memory; its word, its write, its note. -/
import Derived.Test.YtkbobgblohohcaaLock
import Derived.Test.YtkbobgblohohcaaPieces
namespace Go.Proofs.Ytkbobgblohohcaa
open Go.RowKit Go.Mm Go.Cells
/-- something that was written -/
structure Wr where
  a : Int
  n : Int
  v : Int
def fW (e : Wr) : List Value := [.int .i64 e.a, .int .i64 e.n, .int .i64 e.v]
theorem fW_len (e : Wr) : (fW e).length = 3 := rfl
def Wr.has (e : Wr) (x : Int) : Bool := decide (e.a ≤ x) && decide (x < e.a + e.n)
def lookL (L : List Wr) (x : Int) : Int := match L.reverse.find? (fun e => e.has x) with | some e => e.v | none => 0
theorem lookL_nil (x : Int) : lookL [] x = 0 := rfl
theorem lookL_snoc (L : List Wr) (e : Wr) (x : Int) : lookL (L ++ [e]) x = if e.has x = true then e.v else lookL L x := by
  unfold lookL
  rw [List.reverse_append]
  simp only [List.reverse_cons, List.reverse_nil, List.nil_append, List.cons_append, List.find?_cons]
  cases h : e.has x <;> simp
theorem lookL_take {L : List Wr} {i : Nat} {e : Wr} (h : L[i]? = some e) (x : Int) : lookL (L.take (i + 1)) x = if e.has x = true then e.v else lookL (L.take i) x := by
  rw [List.take_add_one, h]
  exact lookL_snoc _ e x
/-- the log says what the words are -/
structure LogOK (L : List Wr) (ws : List Int) : Prop where
  lie : ∀ e ∈ L, 0 ≤ e.a ∧ 0 ≤ e.n ∧ e.a + e.n ≤ (ws.length : Int)
  eq : ∀ j : Nat, j < ws.length → ws[j]? = some (lookL L j)
theorem LogOK.new (n : Nat) : LogOK [] (List.replicate n 0) := ⟨fun _ h => (by cases h), fun j hj => by simp at hj; simp [lookL_nil, hj]⟩
theorem LogOK.set {L : List Wr} {ws : List Int} (h : LogOK L ws) {i : Nat} (hi : i < ws.length) (y : Int) : LogOK (L ++ [⟨(i : Int), 1, y⟩]) (ws.set i y) := by
  refine ⟨fun e he => ?_, fun j hj => ?_⟩
  · rw [List.length_set]
    rcases List.mem_append.1 he with he | he
    · exact h.lie e he
    · rw [List.mem_singleton.1 he]; exact ⟨by simp, by simp, by simp only; omega⟩
  · rw [List.length_set] at hj
    rw [lookL_snoc, List.getElem?_set]
    by_cases e : i = j
    · subst e
      rw [if_pos rfl, if_pos hi, if_pos (by simp [Wr.has]; omega)]
    · rw [if_neg e, if_neg (by simp [Wr.has]; omega)]
      exact h.eq j hj
theorem LogOK.fill {L : List Wr} {ws : List Int} (h : LogOK L ws) {a n : Nat} (hi : a + n ≤ ws.length) (y : Int) : LogOK (L ++ [⟨(a : Int), (n : Int), y⟩]) (fillL ws a n y) := by
  refine ⟨fun e he => ?_, fun j hj => ?_⟩
  · rw [fillL_len hi]
    rcases List.mem_append.1 he with he | he
    · exact h.lie e he
    · rw [List.mem_singleton.1 he]; exact ⟨by simp, by simp, by simp only; omega⟩
  · rw [fillL_len hi] at hj
    rw [lookL_snoc, fillL_get hi]
    by_cases e : a ≤ j ∧ j < a + n
    · rw [if_pos e, if_pos (by simp [Wr.has]; omega)]
    · rw [if_neg e, if_neg (by simp [Wr.has]; omega)]
      exact h.eq j hj
theorem info175 : (Try.prog.info? 175).map (fun i => (i.zero, i.size, i.bytes)) = some (some (.agg #[.int .i64 0, .int .i64 0, .int .i64 0]), 3, 24) := by kernel_rfl
/-- the document's memory in memory -/
structure RMem (base : Nat) (F : Nat → Prop) (w : World) (r lb : Nat) (S : Cm) : Prop where mk ::
  out : ∃ vL vE L, Blk w r 141 #[.int .i64 (S.ws.length : Int), vL, vE, .int .i64 (S.bad : Int)] ∧ w.ownsRow base 175 3 vL L.length (L.flatMap fW) ∧ w.ownsRow base 47 5 vE S.tr.length (S.tr.flatMap fAcc) ∧ (∀ b, vL.ownBlock = some b → F b) ∧ (∀ b, vE.ownBlock = some b → F b) ∧ LogOK L S.ws ∧ L.length ≤ lb
  fg : F r
  lt : ∀ k, F k → base ≤ k ∧ k < w.heap.size
  wl : S.ws.length ≤ 65536
/-- what an operation leaves -/
structure RT (base : Nat) (F : Nat → Prop) (w : World) (r lb : Nat) (S' : Cm) (w' : World) : Prop where mk ::
  out : ∃ F' : Nat → Prop, RMem base F' w' r lb S' ∧ (∀ k, F' k → F k ∨ w.heap.size ≤ k) ∧ Fr F w w'
section
variable {base r lb : Nat} {F T : Nat → Prop} {w w1 w2 : World} {S S' : Cm}
theorem RMem.fr (h : RMem base F w r lb S) (hf : Fr T w w1) (hT : ∀ k, F k → ¬ T k) : RMem base F w1 r lb S := by
  obtain ⟨vL, vE, L, h1, h2, h3, h4, h5, h6⟩ := h.out
  exact ⟨⟨vL, vE, L, hf.blk h1 (hT r h.fg), hf.own h2 (fun b hb => hT b (h4 b hb)), hf.own h3 (fun b hb => hT b (h5 b hb)), h4, h5, h6⟩, h.fg, fun k hk => ⟨(h.lt k hk).1, Nat.lt_of_lt_of_le (h.lt k hk).2 hf.size⟩, h.wl⟩
theorem RMem.below (h : RMem base F w r lb S) (hb : Below w.heap.size w w1) : RMem base F w1 r lb S := h.fr (Fr.of_below hb) fun _ _ h => h
theorem RMem.mono (h : RMem base F w r lb S) {lb' : Nat} (hl : lb ≤ lb') : RMem base F w r lb' S := by
  obtain ⟨vL, vE, L, h1, h2, h3, h4, h5, h6, h7⟩ := h.out
  exact ⟨⟨vL, vE, L, h1, h2, h3, h4, h5, h6, Nat.le_trans h7 hl⟩, h.fg, h.lt, h.wl⟩
theorem RT.of (h : RMem base F w r lb S) : RT base F w r lb S w := ⟨F, h, fun _ hk => .inl hk, Fr.refl _ _⟩
theorem RT.after (hf : Fr F w w1) (h : RT base F w1 r lb S' w2) : RT base F w r lb S' w2 := by
  obtain ⟨F', m, hs, hf2⟩ := h.out
  exact ⟨F', m, fun k hk => (hs k hk).imp id fun h => Nat.le_trans hf.size h, hf.trans hf2 fun _ _ h => h⟩
theorem RT.trans (h : RT base F w r lb S w1) {lb' : Nat} {S'' : Cm} (hk : ∀ F', RMem base F' w1 r lb S → RT base F' w1 r lb' S'' w2) : RT base F w r lb' S'' w2 := by
  obtain ⟨F1, m1, hs1, hf1⟩ := h.out
  obtain ⟨F2, m2, hs2, hf2⟩ := (hk F1 m1).out
  refine ⟨F2, m2, fun k hk => ?_, hf1.trans hf2 fun g hg h => ?_⟩
  · rcases hs2 k hk with h | h
    · exact hs1 k h
    · exact .inr (Nat.le_trans hf1.size h)
  · rcases hs1 g h with h | h
    · exact h
    · omega
theorem RMem.setBad (h : RMem base F w r lb S) (n : Nat) : RMem base F (w.setCell ⟨r, 3, none⟩ (.int .i64 (n : Int))) r lb ⟨S.ws, S.tr, n⟩ := by
  obtain ⟨vL, vE, L, h1, h2, h3, h4, h5, h6⟩ := h.out
  have hf := Fr.setCell w ⟨r, 3, none⟩ (.int .i64 (n : Int))
  exact ⟨⟨vL, vE, L, h1.set 3 _, hf.own h2 (fun b hb (e : b = r) => own_ne h2 h1 (by decide) (by rw [hb, e])), hf.own h3 (fun b hb (e : b = r) => own_ne h3 h1 (by decide) (by rw [hb, e])), h4, h5, h6⟩, h.fg, fun k hk => ⟨(h.lt k hk).1, by have := (h.lt k hk).2; simp [World.setCell]; exact this⟩, h.wl⟩
/-- the log is gone on with -/
theorem rlog_fin {L : List Wr} {e : Wr} {vL vE v1 : Value} {W : World} {ws : List Int} (H : RMem base F w r lb S) (HB : Blk w r 141 #[.int .i64 (S.ws.length : Int), vL, vE, .int .i64 (S.bad : Int)]) (HL : w.ownsRow base 175 3 vL L.length (L.flatMap fW)) (HE : w.ownsRow base 47 5 vE S.tr.length (S.tr.flatMap fAcc)) (FL : ∀ b, vL.ownBlock = some b → F b) (FE : ∀ b, vE.ownBlock = some b → F b) (hlb : L.length ≤ lb)
    (FA : Fr (fun _ => False) w W) (K1 : w1.ownsRow base 175 3 v1 (L.length + 1) (L.flatMap fW ++ fW e)) (K3 : W.grownBy w1 vL.ownBlock) (K4 : v1.ownBlock = vL.ownBlock ∨ ∃ b, v1.ownBlock = some b ∧ w.heap.size ≤ b) (hw : LogOK (L ++ [e]) ws) (hlen : ws.length = S.ws.length) :
    RT base F w r (lb + 1) ⟨ws, S.tr, S.bad⟩ (w1.setCell ⟨r, 1, none⟩ v1) := by
  have hf1 : Fr (fun k => vL.ownBlock = some k) w w1 := (FA.mono (T := fun k => vL.ownBlock = some k) fun _ h => h.elim).trans (Fr.grown K3) fun _ _ h => h
  have hf1' : Fr F w w1 := hf1.mono fun k hk => FL k hk
  have hs := Fr.setCell w1 ⟨r, 1, none⟩ v1
  have hsz : (w1.setCell ⟨r, 1, none⟩ v1).heap.size = w1.heap.size := by simp [World.setCell]
  have nb : ¬ vL.ownBlock = some r := fun h => own_ne HL HB (by decide) h
  have R1 := hf1.blk HB nb
  have E1 := hf1.own HE fun b hb hb' => own_own_ne HE HL (by decide) hb hb'
  refine ⟨fun k => F k ∨ (w.heap.size ≤ k ∧ k < w1.heap.size), ⟨⟨v1, vE, L ++ [e], ?_, ?_, ?_, fun b hb => ?_, fun b hb => .inl (FE b hb), hw, by simp; omega⟩, .inl H.fg, fun k hk => ?_, by simp only; rw [hlen]; exact H.wl⟩, fun k hk => hk.imp id fun h => h.1, hf1'.trans hs fun k _ (e : k = r) => e ▸ H.fg⟩
  · simp only; rw [hlen]; exact R1.set 1 v1
  · rw [show (L ++ [e]).length = L.length + 1 from by simp, show (L ++ [e]).flatMap fW = L.flatMap fW ++ fW e from by simp]
    exact hs.own K1 fun b hb (e : b = r) => own_ne K1 R1 (by decide) (by rw [hb, e])
  · exact hs.own E1 fun b hb (e : b = r) => own_ne E1 R1 (by decide) (by rw [hb, e])
  · rcases K4 with h | ⟨b', h, h2⟩
    · exact .inl (FL b (h ▸ hb))
    · right
      have h3 := (own_lt K1 hb).2
      rw [hb] at h
      injection h with h
      omega
  · rw [hsz]
    rcases hk with hk | hk
    · have := H.lt k hk
      have := hf1.size
      omega
    · have := H.lt r H.fg
      omega
end
theorem add_fieldR (a : Addr) (i j : Nat) (h : 0 < j) : a.add (i + j) = ⟨(a.add i).block, (a.add i).off + j, none⟩ := by
  unfold Addr.add
  rw [if_neg (by omega)]
  by_cases hi : i = 0 <;> simp [hi, Nat.add_assoc]
def WordE (x : Int) (w : World) (e : Ending) (w' : World) : Prop := e = .returned (.int .i64 x) ∧ Below w.heap.size w w'
section
variable {base r lb : Nat} {F : Nat → Prop} {w : World} {S : Cm}
theorem has_true {e : Wr} {x : Int} (h : e.has x = true) : e.a ≤ x ∧ x < e.a + e.n := by simpa [Wr.has] using h
set_option maxRecDepth 100000 in
set_option maxHeartbeats 2000000 in
theorem rword_any (h : RMem base F w r lb S) (i : Nat) (x : Int) (hx : S.ws[i]? = some x) (hlb : (lb + 1) * 24 ≤ 140737488355328) :
    Calls Try.prog 70 #[.pointer (some ⟨r, 0, none⟩), .int .i64 (i : Int)] w (WordE x w) := by
  obtain ⟨vL, vE, L, h1, h2, h3, h4, h5, h6, h7⟩ := h.out
  obtain ⟨m, hm⟩ : ∃ m, L.length = m := ⟨_, rfl⟩
  rw [hm] at h2 h7
  obtain ⟨A, c, rfl, hc, _, hR⟩ := own_slice h2
  have R := Mm.hid hR
  have LM := Mm.hid hm
  have HB := Mm.hid h1
  have OK := Mm.hid h6
  have hi := (List.getElem?_eq_some_iff.1 hx).1
  have hwl := h.wl
  have HX : Hid (lookL L (i : Int) = x) := by
    show _ = _
    have := h6.eq i hi
    rw [hx] at this
    injection this with this
    exact this.symm
  have hi' : i < 65536 := by omega
  have hm' : m ≤ 5864062014805 := by omega
  have LW : Hid (∀ (j : Nat) (e : Wr), L[j]? = some e → 0 ≤ e.a ∧ 0 ≤ e.n ∧ e.a + e.n ≤ 65536) := fun j e he => by
    have := h6.lie e (List.mem_of_getElem? he); omega
  have hrl := h1.lt
  have c1 : w.cell? ⟨r, 1, none⟩ = some (.slice A m c) := h1.cell 1
  clear h h1 h2 h3 h4 h5 h6 hx hR hm hwl hi hlb h7
  go_enter Try.func70, Try.ntmps70
  go_wp2_with fail
  go_loopw [5, 6] (fun i_ _ wr => ∃ k : Nat, k ≤ m ∧ i_ = .int .i64 ((k : Int) - 1) ∧ Hid (Below w.heap.size w wr ∧ lookL (L.take k) (i : Int) = x)) (fun i_ _ _ => (intOf i_ + 1).toNat)
  case atStart => exact ⟨m, Nat.le_refl _, rfl, Below.refl _ _, by rw [← LM.out, List.take_length]; exact HX.out⟩
  case round =>
    obtain ⟨k, hk, rfl, HK⟩ := hrel
    rcases Nat.eq_zero_or_pos k with h0 | h0
    · subst h0
      have hx0 : 0 = x := by have := HK.out.2; rwa [List.take_zero, lookL_nil] at this
      subst hx0
      have BW := Mm.hid HK.out.1
      clear HK
      go_wp2
      go_ret
      exact ⟨rfl, BW.out⟩
    · obtain ⟨j, rfl⟩ : ∃ j, k = j + 1 := ⟨k - 1, by omega⟩
      obtain ⟨e, he⟩ : ∃ e, L[j]? = some e := ⟨_, List.getElem?_eq_getElem (by rw [LM.out]; omega)⟩
      have hkj : ((j + 1 : Nat) : Int) - 1 = (j : Int) := by omega
      have hL := HK.out.2
      rw [lookL_take he] at hL
      have B := Mm.hid HK.out.1
      obtain ⟨q1, q2, q3⟩ := LW.out j e he
      have d1 : wr.cell? ⟨r, 1, none⟩ = some (.slice A m c) := (HB.out.keep (B.out.block r hrl)).cell 1
      obtain ⟨ad, rfl, hbl, hcell⟩ := (R.out.below B.out).2 (by omega)
      have key : ∀ q u, q < 3 → (fW e)[q]? = some u → wr.cell? (ad.add (j * 3 + q)) = some u := fun q u hq hu => hcell _ _ (by rw [flatMap_at fW_len he hq]; exact hu)
      have f0 : wr.cell? (ad.add (j * 3)) = some (.int .i64 e.a) := key 0 _ (by decide) rfl
      have f1 : wr.cell? ⟨(ad.add (j * 3)).block, (ad.add (j * 3)).off + 1, none⟩ = some (.int .i64 e.n) := by rw [← add_fieldR _ _ 1 (by decide)]; exact key 1 _ (by decide) rfl
      have f2 : wr.cell? ⟨(ad.add (j * 3)).block, (ad.add (j * 3)).off + 2, none⟩ = some (.int .i64 e.v) := by rw [← add_fieldR _ _ 2 (by decide)]; exact key 2 _ (by decide) rfl
      have BN := Mm.hid (B.out.trans (((Below.refl wr.heap.size wr).alloc (Nat.le_refl _) (.cells #[.int .i64 e.a, .int .i64 e.n, .int .i64 e.v] 175)).mono B.out.size))
      clear HK he hcell key LW HB R
      rw [hkj]
      obtain ⟨ea, en, ev⟩ := e
      simp only at q1 q2 q3 f0 f1 f2 BN
      by_cases t1 : ea ≤ (i : Int)
      · by_cases t2 : (i : Int) < ea + en
        · have hx1 : ev = x := by rwa [if_pos (by simp [Wr.has]; omega)] at hL
          subst hx1
          clear hL
          go_wp2
          go_ret
          exact ⟨rfl, BN.out⟩
        · have hL2 : Hid (lookL (L.take j) (i : Int) = x) := by rwa [if_neg (by simp [Wr.has]; omega)] at hL
          clear hL
          go_wp2
          go_roundw
          case rel => exact ⟨j, by omega, by go_num, BN.out, hL2.out⟩
          case measure => simp [intOf] <;> omega
      · have hL2 : Hid (lookL (L.take j) (i : Int) = x) := by rwa [if_neg (by simp [Wr.has]; omega)] at hL
        clear hL
        go_wp2
        go_roundw
        case rel => exact ⟨j, by omega, by go_num, BN.out, hL2.out⟩
        case measure => simp [intOf] <;> omega
end
end Go.Proofs.Ytkbobgblohohcaa

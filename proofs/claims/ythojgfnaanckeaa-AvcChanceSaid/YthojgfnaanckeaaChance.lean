/- Walk: the law AvcChance. -/
import Derived.Test.YthojgfnaanckeaaChanceN
import Derived.Test.YthojgfnaanckeaaTrueW
namespace Go.Proofs.Ythojgfnaanckeaa
open Go.RowKit Go.Mm
theorem field30 (a b c d : Int) (W : World) : (Instr.field 30 (.agg #[.int .i64 a, .int .i64 b, .int .i64 c, .int .i64 d]) 2).run Try.prog W = .ok (.int .i64 c) W := by
  obtain ⟨i3, hi3, z3⟩ := Option.map_eq_some_iff.1 info3
  have e : (asAgg (.agg #[.int .i64 a, .int .i64 b, .int .i64 c, .int .i64 d])).run Try.prog W = .ok #[.int .i64 a, .int .i64 b, .int .i64 c, .int .i64 d] W := rfl
  simp [Instr.field, run_underlying Try.underlying30, part, run_sizeOf, hi3, e]
def Ph1 (w : Nat) (tag : Int) (S : St) (j : Nat) : Prop := S.ok w ∧ S.small j ∧ Uniq S ∧ ∃ l x y u, S = ⟨[(l, 0)], x, y, 0, u⟩ ∧ Filled w j tag (fun _ => false) l
theorem Ph1.start {w : Nat} (tag : Int) (h1 : 1 ≤ w) (h8 : w ≤ 8) : Ph1 w tag (St.new 1 w) 0 :=
  ⟨new_ok (by decide) (by decide) h1 h8, new_small _ _, new_uniq _ _, List.replicate w Pl.none, 0, 0, 0, rfl, filled_new _ _ _⟩
theorem Ph1.step {w : Nat} {tag : Int} {S : St} {j : Nat} (h : Ph1 w tag S j) (hj : j < w) (al : Bool) : Ph1 w tag (putS w S tag j 0 0 al) (j + 1) := by
  obtain ⟨h1, h2, h3, l, x, y, u, rfl, h4⟩ := h
  refine ⟨putS_ok _ _ _ _ _ h1, putS_small _ _ _ _ _ h2, putS_uniq _ _ _ _ _ h3, ?_⟩
  obtain ⟨l', u', e, h5⟩ := put_fill (x := x) (y := y) (z := 0) (u := u) h4 hj rfl al
  exact ⟨l', x, y, u', e, h5⟩
def Ph2 (w : Nat) (tag : Int) (bit : Nat → Bool) (S : St) (i : Nat) : Prop := S.ok w ∧ S.small (w + i) ∧ Uniq S ∧ ∃ l x y u, S = ⟨[(l, 0)], x, y, 0, u⟩ ∧ Filled w w tag (fun k => decide (k < i) && bit k) l
theorem Filled.cong {w j : Nat} {tag : Int} {μ ν : Nat → Bool} {l : List Pl} (h : Filled w j tag μ l) (e : ∀ k, μ k = ν k) : Filled w j tag ν l := by
  rw [show μ = ν from funext e] at h; exact h
theorem Ph1.done {w : Nat} {tag : Int} {S : St} (h : Ph1 w tag S w) (bit : Nat → Bool) : Ph2 w tag bit S 0 := by
  obtain ⟨h1, h2, h3, l, x, y, u, rfl, h4⟩ := h
  exact ⟨h1, h2, h3, l, x, y, u, rfl, h4.cong fun k => by simp⟩
theorem Ph2.hit {w : Nat} {tag : Int} {bit : Nat → Bool} {S : St} {i : Nat} (h : Ph2 w tag bit S i) (hi : i < w) (hb : bit i = true) : (getS S tag i 0 0).1.2 = true ∧ Ph2 w tag bit (getS S tag i 0 0).2 (i + 1) := by
  obtain ⟨h1, h2, h3, l, x, y, u, rfl, h4⟩ := h
  obtain ⟨l', al, e, h5⟩ := get_fill (x := x) (y := y) (z := 0) (u := u) h4 hi
  refine ⟨by rw [e], getS_ok _ _ _ _ h1, getS_small _ _ _ _ h2, getS_uniq _ _ _ _ h3, l', x + 1, y, u, by rw [e], h5.cong fun k => ?_⟩
  by_cases hk : k = i
  · subst hk; simp [hb]
  · have : decide (k < i + 1) = decide (k < i) := by simp; omega
    simp [hk, this]
theorem Ph2.skip {w : Nat} {tag : Int} {bit : Nat → Bool} {S : St} {i : Nat} (h : Ph2 w tag bit S i) (hb : bit i = false) : Ph2 w tag bit S (i + 1) := by
  obtain ⟨h1, h2, h3, l, x, y, u, rfl, h4⟩ := h
  refine ⟨h1, h2.more (by omega), h3, l, x, y, u, rfl, h4.cong fun k => ?_⟩
  by_cases hk : k = i
  · subst hk; simp [hb]
  · have : decide (k < i + 1) = decide (k < i) := by simp; omega
    simp [this]
/-- behind the Put: v is gone -/
def Ph3 (w : Nat) (tag : Int) (v : Nat) (S : St) (i : Nat) : Prop := S.ok w ∧ S.small (2 * w + 1 + i) ∧ Uniq S ∧ (∀ i : Nat, i < w → i ≠ v → ∃ b, In S i 0 0 tag b) ∧ (∀ t b, ¬ In S v 0 0 t b) ∧ (∃ b, In S w 0 0 tag b) ∧ S.ev = 1
theorem Ph2.done {w : Nat} {tag : Int} {bit : Nat → Bool} {S : St} (h : Ph2 w tag bit S w) (al : Bool) : ∃ v, v < w ∧ (bit v = true → ∀ i, i < w → bit i = true) ∧ Ph3 w tag v (putS w S tag w 0 0 al) 0 := by
  obtain ⟨h1, h2, h3, l, x, y, u, rfl, h4⟩ := h
  obtain ⟨v, v1, v2, v3, v4, v5, v6⟩ := put_over (x := x) (y := y) (z := 0) (u := u) h1.2.2.1 h1.2.2.2.1 h4 al
  refine ⟨v, v1, fun hb i hi => ?_, putS_ok _ _ _ _ _ h1, (putS_small _ _ _ _ _ h2).more (by omega), putS_uniq _ _ _ _ _ h3, v3, v4, ⟨al, putS_held _ _ _ _ _ h1⟩, v5⟩
  have := v2 (by simp [v1, hb]) i hi
  simpa [hi] using this
theorem Ph3.get {w : Nat} {tag : Int} {v : Nat} {S : St} {i : Nat} (h : Ph3 w tag v S i) (k : Nat) : Ph3 w tag v (getS S tag k 0 0).2 (i + 1) := by
  obtain ⟨h1, h2, h3, h4, h5, h6, h7⟩ := h
  refine ⟨getS_ok _ _ _ _ h1, getS_small _ _ _ _ h2, getS_uniq _ _ _ _ h3, fun j hj hne => ?_, fun t b hin => h5 t b (getS_in hin), ?_, by rw [getS_ev, h7]⟩
  · obtain ⟨b, hb⟩ := h4 j hj hne
    exact ⟨b, getS_keep hb (.inr rfl)⟩
  · obtain ⟨b, hb⟩ := h6
    exact ⟨b, getS_keep hb (.inr rfl)⟩
theorem Ph3.told {w : Nat} {tag : Int} {v : Nat} {S : St} {i : Nat} (h : Ph3 w tag v S i) {k : Nat} (hk : k < w) : (getS S tag k 0 0).1.2 = !(k == v) := by
  obtain ⟨h1, h2, h3, h4, h5, h6, h7⟩ := h
  by_cases hkv : k = v
  · subst hkv
    rw [getS_not h5]; simp
  · obtain ⟨b, hb⟩ := h4 k hk hkv
    rw [getS_told h3 hb]; simp [hkv]
theorem Ph3.last {w : Nat} {tag : Int} {v : Nat} {S : St} {i : Nat} (h : Ph3 w tag v S i) : (getS S tag w 0 0).1.2 = true := by
  obtain ⟨h1, h2, h3, h4, h5, ⟨b, hb⟩, h7⟩ := h
  rw [getS_told h3 hb]
def bitOf (hit : Int) (k : Nat) : Bool := ((hit / 2 ^ k).tmod 2 != 0)
def gone (v q : Nat) : Nat := if v < q then 1 else 0
theorem gone_self (v : Nat) : gone v v = 0 := if_neg (Nat.lt_irrefl v)
theorem gone_next (v : Nat) : gone v (v + 1) = 1 := if_pos (Nat.lt_succ_self v)
theorem gone_all {v q : Nat} (h : v < q) : gone v q = 1 := if_pos h
theorem gone_same {v q : Nat} (h : q ≠ v) : gone v (q + 1) = gone v q := by
  unfold gone
  by_cases h' : v < q
  · rw [if_pos h', if_pos (by omega)]
  · rw [if_neg h', if_neg (by omega)]
theorem gone_le (v q : Nat) : gone v q ≤ 1 := by unfold gone; split <;> omega
def cnt (bit : Nat → Bool) (i : Nat) : Nat := (List.range i).countP bit
theorem cnt_succ (bit : Nat → Bool) (i : Nat) : cnt bit (i + 1) = cnt bit i + if bit i then 1 else 0 := by
  unfold cnt; rw [List.range_succ, List.countP_append, List.countP_singleton]
theorem cnt_le (bit : Nat → Bool) (i : Nat) : cnt bit i ≤ i := by
  have := List.countP_le_length (p := bit) (l := List.range i); simpa [cnt] using this
theorem cnt_all {bit : Nat → Bool} {w : Nat} (h : ∀ i, i < w → bit i = true) : cnt bit w = w := by
  unfold cnt
  rw [List.countP_eq_length.2 (fun a ha => h a (List.mem_range.1 ha))]; simp
set_option maxRecDepth 100000 in
set_option maxHeartbeats 8000000 in
theorem law_chance (ways hit tag : Int) (w : World) (_ : (Lit.int .i64 ways).wf = true) (_ : (Lit.int .i64 hit).wf = true) (_ : (Lit.int .i64 tag).wf = true) :
    Calls Try.prog 9 #[.int .i64 ways, .int .i64 hit, .int .i64 tag] w fun e w' => e = .returned (.bool true) ∧ Below w.heap.size w w' := by
  go_enter Try.func9, Try.ntmps9
  go_wp2_with fail
  refine (alive_true _).mono ?_
  rintro e w1 ⟨rfl, hb⟩
  have B1 := Mm.hid hb
  clear hb
  go_wp2_with fail
  refine (which_nat ways 8 _ (by decide) (by decide)).mono ?_
  rintro e w2 ⟨m, z3, z4, rfl, rfl⟩
  go_wp2_with fail
  refine (new_good 1 m _ (by decide) (by decide) z3 z4).mono ?_
  rintro e w2 ⟨rfl, hc, hb⟩
  have hle := B1.out.size
  have C2 := Mm.hid hc
  have B2 := Mm.hid (B1.out.trans (hb.mono hle))
  clear hc hb
  generalize w1.heap.size = b at *
  clear B1
  go_wp2_with fail
  go_loopw [11] (fun i wr => ∃ (j : Nat) (S : St), j ≤ m ∧ i = .int .i64 (j : Nat) ∧ Hid (CacheB wr b m S ∧ Ph1 m tag S j) ∧ Hid (Below w.heap.size w wr)) (fun i _ => m - (intOf i).toNat)
  case atStart => exact ⟨0, St.new 1 m, Nat.zero_le _, rfl, ⟨C2.out, Ph1.start tag z3 z4⟩, B2⟩
  case round =>
    obtain ⟨j, S, hj, rfl, HC, HB⟩ := hrel
    clear C2 B2
    by_cases hlt : j < m
    · go_wp2_with fail
      refine (put_any b m S tag j 0 0 _ j _ HC.out.1 HC.out.2.1 HC.out.2.2.1 (by omega)).mono ?_
      rintro e w5 ⟨rfl, hc, hf⟩
      have C5 := Mm.hid (And.intro hc (HC.out.2.step hlt ((j : Int) % 3 == 0)))
      have B5 := Mm.hid (HB.out.trans (hf.below (B := w.heap.size) (fun g hg => Nat.le_trans hle hg.1) HB.out.size))
      clear hc hf
      go_wp2
      go_roundw
      case rel => exact ⟨j + 1, _, by omega, by go_num, C5, B5⟩
      case measure => simp [intOf] <;> omega
    · have hjm : j = m := by omega
      subst hjm
      go_wp2_with fail
      go_loopw [12, 13, 14, 15] (fun a i _ _ wr => ∃ (k : Nat) (S : St), k ≤ j ∧ i = .int .i64 (k : Nat) ∧ a = .int .i64 (cnt (bitOf hit) k : Nat) ∧ Hid (CacheB wr b j S ∧ Ph2 j tag (bitOf hit) S k) ∧ Hid (Below w.heap.size w wr)) (fun _ i _ _ _ => j - (intOf i).toNat)
      case atStart => exact ⟨0, S, Nat.zero_le _, rfl, rfl, ⟨HC.out.1, HC.out.2.done _⟩, HB⟩
      case round =>
        obtain ⟨k, S', hk, rfl, rfl, HC', HB'⟩ := hrel
        clear HC HB
        have HS := Mm.hid (cnt_succ (bitOf hit) k)
        by_cases hlt2 : k < j
        · cases hb : ((hit / 2 ^ k).tmod 2 != 0)
          · have P5 := Mm.hid (HC'.out.2.skip (i := k) hb)
            have HB2 : Hid (cnt (bitOf hit) (k + 1) = cnt (bitOf hit) k) := by
              have : bitOf hit k = false := hb
              rw [HS.out, this]; exact rfl
            go_wp2
            go_roundw
            case rel => exact ⟨k + 1, S', by omega, by go_num, by rw [HB2.out], ⟨HC'.out.1, P5.out⟩, HB'⟩
            case measure => simp [intOf] <;> omega
          · have P5 := Mm.hid (HC'.out.2.hit (i := k) hlt2 hb)
            have HB2 : Hid (cnt (bitOf hit) (k + 1) = cnt (bitOf hit) k + 1) := by
              have : bitOf hit k = true := hb
              rw [HS.out, this]; exact rfl
            have hcl := cnt_le (bitOf hit) k
            go_wp2_with fail
            refine (get_any b j S' tag k 0 0 (j + k) _ HC'.out.1 HC'.out.2.1 HC'.out.2.2.1 (by omega)).mono ?_
            rintro e w5 ⟨rfl, hc, hf⟩
            rw [P5.out.1]
            have C5 := Mm.hid (And.intro hc P5.out.2)
            have B5 := Mm.hid (HB'.out.trans (hf.below (B := w.heap.size) (fun g hg => Nat.le_trans hle hg.1) HB'.out.size))
            clear hc hf
            go_wp2
            go_roundw
            case rel => exact ⟨k + 1, _, by omega, by go_num, by rw [HB2.out]; go_num, C5, B5⟩
            case measure => simp [intOf] <;> omega
        · have hkj : k = j := by omega
          subst hkj
          obtain ⟨v, hv, hall, h3⟩ := HC'.out.2.done true
          have HV : Hid (bitOf hit v = true → cnt (bitOf hit) k = k) := fun h => cnt_all (hall h)
          have H3 := Mm.hid h3
          have hcl := cnt_le (bitOf hit) k
          clear h3 hall
          go_wp2_with fail
          refine (put_any b k S' tag k 0 0 true (k + k) _ HC'.out.1 HC'.out.2.1 HC'.out.2.2.1 (by omega)).mono ?_
          rintro e w5 ⟨rfl, hc, hf⟩
          have C5 := Mm.hid (And.intro hc H3.out)
          have B5 := Mm.hid (HB'.out.trans (hf.below (B := w.heap.size) (fun g hg => Nat.le_trans hle hg.1) HB'.out.size))
          clear hc hf HB' HC' H3
          go_wp2_with fail
          go_loopw [16, 17, 18, 19] (fun a i _ _ wr => ∃ (q : Nat) (S : St), q ≤ k ∧ i = .int .i64 (q : Nat) ∧ a = .int .i64 (gone v q : Nat) ∧ Hid (CacheB wr b k S ∧ Ph3 k tag v S q) ∧ Hid (Below w.heap.size w wr)) (fun _ i _ _ _ => k - (intOf i).toNat)
          case atStart => exact ⟨0, _, Nat.zero_le _, rfl, by rw [show gone v 0 = 0 from rfl]; rfl, C5, B5⟩
          case round =>
            obtain ⟨q, T, hq, rfl, rfl, HC, HB⟩ := hrel
            clear C5 B5
            by_cases hlt3 : q < k
            · have TO := Mm.hid (HC.out.2.told (k := q) hlt3)
              have P5 := Mm.hid (HC.out.2.get q)
              go_wp2_with fail
              refine (get_any b k T tag q 0 0 (2 * k + 1 + q) _ HC.out.1 HC.out.2.1 HC.out.2.2.1 (by omega)).mono ?_
              rintro e w6 ⟨rfl, hc, hf⟩
              rw [TO.out]
              have C6 := Mm.hid (And.intro hc P5.out)
              have B6 := Mm.hid (HB.out.trans (hf.below (B := w.heap.size) (fun g hg => Nat.le_trans hle hg.1) HB.out.size))
              clear hc hf
              by_cases hqv : q = v
              · subst hqv
                have e1 : (q == q) = true := by simp
                rw [e1]
                rw [gone_self]
                cases hb : ((hit / 2 ^ q).tmod 2 != 0)
                · go_wp2
                  go_roundw
                  case rel => exact ⟨q + 1, _, by omega, by go_num, by rw [gone_next]; go_num, C6, B6⟩
                  case measure => simp [intOf] <;> omega
                · have hge : k ≤ cnt (bitOf hit) k := Nat.le_of_eq (HV.out hb).symm
                  go_wp2
                  go_roundw
                  case rel => exact ⟨q + 1, _, by omega, by go_num, by rw [gone_next]; go_num, C6, B6⟩
                  case measure => simp [intOf] <;> omega
              · have e1 : (q == v) = false := beq_eq_false_iff_ne.2 hqv
                rw [e1]
                have E2 := Mm.hid (gone_same hqv)
                have gl := gone_le v q
                go_wp2
                go_roundw
                case rel => exact ⟨q + 1, _, by omega, by go_num, by rw [E2.out], C6, B6⟩
                case measure => simp [intOf] <;> omega
            · have hqk : q = k := by omega
              subst hqk
              rw [gone_all hv]
              have TO := Mm.hid (HC.out.2.last)
              have P5 := Mm.hid (HC.out.2.get q)
              go_wp2_with fail
              refine (get_any b q T tag q 0 0 (2 * q + 1 + q) _ HC.out.1 HC.out.2.1 HC.out.2.2.1 (by omega)).mono ?_
              rintro e w6 ⟨rfl, hc, hf⟩
              rw [TO.out]
              have C6 := Mm.hid (And.intro hc P5.out)
              have B6 := Mm.hid (HB.out.trans (hf.below (B := w.heap.size) (fun g hg => Nat.le_trans hle hg.1) HB.out.size))
              clear hc hf
              have fl := field30 (getS T tag q 0 0).2.hits (getS T tag q 0 0).2.misses 1 (getS T tag q 0 0).2.held
              go_wp2_with fail
              refine (stats_any _ C6.out.1).mono ?_
              rintro e w7 ⟨rfl, hb⟩
              have B7 := Mm.hid (B6.out.trans (hb.mono B6.out.size))
              clear hb
              rw [C6.out.2.2.2.2.2.2.2]
              go_wp2_with fail
              go_ret
              exact ⟨rfl, B7.out⟩
end Go.Proofs.Ythojgfnaanckeaa

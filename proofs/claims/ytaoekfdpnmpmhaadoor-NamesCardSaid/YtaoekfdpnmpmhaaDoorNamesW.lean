/- Walk: the law Names: the numbers of errors, their texts. -/
import Derived.Test.YtaoekfdpnmpmhaaDoorRows
import Derived.WalkKit
import Derived.WalkSpells
import Derived.WalkLawsBesides
import Derived.Below
import Derived.Deep.QuietTactic
import Derived.BigQuiet
import Derived.Deep.RegionHeld3
namespace Go.Proofs.YtaoekfdpnmpmhaaDoor
open Go.RowKit
def SE (s : Value) (w : World) (e : Ending) (w' : World) : Prop := e = .returned s ∧ w' = w
set_option maxRecDepth 1000000 in
theorem small3 (w : World) : Calls Tryd.prog 10 #[.int .i64 3] w (SE (.string ⟨#[51]⟩) w) := by
  go_enter Tryd.func10, Tryd.ntmps10
  go_wp2
  go_ret
  exact ⟨rfl, rfl⟩
theorem fmt3 (w : World) : Calls Tryd.prog 9 #[.int .i64 3, .int .i64 10] w (SE (.string ⟨#[51]⟩) w) := by
  go_enter Tryd.func9, Tryd.ntmps9
  go_wp2_with fail
  refine (small3 _).mono ?_
  rintro e w' ⟨rfl, rfl⟩
  go_wp2
  go_ret
  exact ⟨rfl, rfl⟩
theorem itoa3 (w : World) : Calls Tryd.prog 7 #[.int .i64 3] w (SE (.string ⟨#[51]⟩) w) := by
  have inner : ∀ w, Calls Tryd.prog 8 #[.int .i64 3] w (SE (.string ⟨#[51]⟩) w) := by
    intro w
    go_enter Tryd.func8, Tryd.ntmps8
    go_wp2_with fail
    refine (fmt3 _).mono ?_
    rintro e w' ⟨rfl, rfl⟩
    go_wp2
    go_ret
    exact ⟨rfl, rfl⟩
  go_enter Tryd.func7, Tryd.ntmps7
  go_wp2_with fail
  refine (inner _).mono ?_
  rintro e w' ⟨rfl, rfl⟩
  go_wp2
  go_ret
  exact ⟨rfl, rfl⟩
set_option maxRecDepth 1000000 in
theorem small7 (w : World) : Calls Tryd.prog 10 #[.int .i64 7] w (SE (.string ⟨#[55]⟩) w) := by
  go_enter Tryd.func10, Tryd.ntmps10
  go_wp2
  go_ret
  exact ⟨rfl, rfl⟩
theorem fmt7 (w : World) : Calls Tryd.prog 9 #[.int .i64 7, .int .i64 10] w (SE (.string ⟨#[55]⟩) w) := by
  go_enter Tryd.func9, Tryd.ntmps9
  go_wp2_with fail
  refine (small7 _).mono ?_
  rintro e w' ⟨rfl, rfl⟩
  go_wp2
  go_ret
  exact ⟨rfl, rfl⟩
theorem itoa7 (w : World) : Calls Tryd.prog 7 #[.int .i64 7] w (SE (.string ⟨#[55]⟩) w) := by
  have inner : ∀ w, Calls Tryd.prog 8 #[.int .i64 7] w (SE (.string ⟨#[55]⟩) w) := by
    intro w
    go_enter Tryd.func8, Tryd.ntmps8
    go_wp2_with fail
    refine (fmt7 _).mono ?_
    rintro e w' ⟨rfl, rfl⟩
    go_wp2
    go_ret
    exact ⟨rfl, rfl⟩
  go_enter Tryd.func7, Tryd.ntmps7
  go_wp2_with fail
  refine (inner _).mono ?_
  rintro e w' ⟨rfl, rfl⟩
  go_wp2
  go_ret
  exact ⟨rfl, rfl⟩
set_option maxRecDepth 1000000 in
theorem small40 (w : World) : Calls Tryd.prog 10 #[.int .i64 40] w (SE (.string ⟨#[52, 48]⟩) w) := by
  go_enter Tryd.func10, Tryd.ntmps10
  go_wp2
  go_ret
  exact ⟨rfl, rfl⟩
theorem fmt40 (w : World) : Calls Tryd.prog 9 #[.int .i64 40, .int .i64 10] w (SE (.string ⟨#[52, 48]⟩) w) := by
  go_enter Tryd.func9, Tryd.ntmps9
  go_wp2_with fail
  refine (small40 _).mono ?_
  rintro e w' ⟨rfl, rfl⟩
  go_wp2
  go_ret
  exact ⟨rfl, rfl⟩
theorem itoa40 (w : World) : Calls Tryd.prog 7 #[.int .i64 40] w (SE (.string ⟨#[52, 48]⟩) w) := by
  have inner : ∀ w, Calls Tryd.prog 8 #[.int .i64 40] w (SE (.string ⟨#[52, 48]⟩) w) := by
    intro w
    go_enter Tryd.func8, Tryd.ntmps8
    go_wp2_with fail
    refine (fmt40 _).mono ?_
    rintro e w' ⟨rfl, rfl⟩
    go_wp2
    go_ret
    exact ⟨rfl, rfl⟩
  go_enter Tryd.func7, Tryd.ntmps7
  go_wp2_with fail
  refine (inner _).mono ?_
  rintro e w' ⟨rfl, rfl⟩
  go_wp2
  go_ret
  exact ⟨rfl, rfl⟩
set_option maxRecDepth 1000000 in
theorem small60 (w : World) : Calls Tryd.prog 10 #[.int .i64 60] w (SE (.string ⟨#[54, 48]⟩) w) := by
  go_enter Tryd.func10, Tryd.ntmps10
  go_wp2
  go_ret
  exact ⟨rfl, rfl⟩
theorem fmt60 (w : World) : Calls Tryd.prog 9 #[.int .i64 60, .int .i64 10] w (SE (.string ⟨#[54, 48]⟩) w) := by
  go_enter Tryd.func9, Tryd.ntmps9
  go_wp2_with fail
  refine (small60 _).mono ?_
  rintro e w' ⟨rfl, rfl⟩
  go_wp2
  go_ret
  exact ⟨rfl, rfl⟩
theorem itoa60 (w : World) : Calls Tryd.prog 7 #[.int .i64 60] w (SE (.string ⟨#[54, 48]⟩) w) := by
  have inner : ∀ w, Calls Tryd.prog 8 #[.int .i64 60] w (SE (.string ⟨#[54, 48]⟩) w) := by
    intro w
    go_enter Tryd.func8, Tryd.ntmps8
    go_wp2_with fail
    refine (fmt60 _).mono ?_
    rintro e w' ⟨rfl, rfl⟩
    go_wp2
    go_ret
    exact ⟨rfl, rfl⟩
  go_enter Tryd.func7, Tryd.ntmps7
  go_wp2_with fail
  refine (inner _).mono ?_
  rintro e w' ⟨rfl, rfl⟩
  go_wp2
  go_ret
  exact ⟨rfl, rfl⟩
theorem err40 (w : World) : Calls Tryd.prog 5 #[.int .i64 40] w (SE (.string ⟨#[101, 114, 114, 111, 114, 32, 52, 48]⟩) w) := by
  go_enter Tryd.func5, Tryd.ntmps5
  go_wp2_with fail
  refine (itoa40 _).mono ?_
  rintro e w' ⟨rfl, rfl⟩
  go_wp2
  go_ret
  exact ⟨rfl, rfl⟩
theorem err60 (w : World) : Calls Tryd.prog 5 #[.int .i64 60] w (SE (.string ⟨#[101, 114, 114, 111, 114, 32, 54, 48]⟩) w) := by
  go_enter Tryd.func5, Tryd.ntmps5
  go_wp2_with fail
  refine (itoa60 _).mono ?_
  rintro e w' ⟨rfl, rfl⟩
  go_wp2
  go_ret
  exact ⟨rfl, rfl⟩
def FE (s : Value) (w : World) (e : Ending) (w' : World) : Prop := e = .returned s ∧ ∃ n, w' = w.drewN n
set_option maxRecDepth 100000 in
theorem fault_err (g : Nat) (w : World) (c0 : w.cell? ⟨g, 0, none⟩ = some (.int .i64 40)) (c1 : w.cell? ⟨g, 1, none⟩ = some (.int .i64 3)) (c2 : w.cell? ⟨g, 2, none⟩ = some (.int .i64 7)) (c3 : w.cell? ⟨g, 3, none⟩ = some (.string ⟨#[98, 111, 98]⟩)) :
    Calls Tryd.prog 4 #[.pointer (some ⟨g, 0, none⟩)] w (FE (.string ⟨#[51, 58, 55, 58, 32, 101, 114, 114, 111, 114, 32, 52, 48, 58, 32, 98, 111, 98]⟩) w) := by
  go_enter Tryd.func4, Tryd.ntmps4
  go_wp2_with fail
  go_region_held3 (fun w' => w'.cell? ⟨g, 0, none⟩ = some (.int .i64 40) ∧ w'.cell? ⟨g, 1, none⟩ = some (.int .i64 3) ∧ w'.cell? ⟨g, 2, none⟩ = some (.int .i64 7) ∧ w'.cell? ⟨g, 3, none⟩ = some (.string ⟨#[98, 111, 98]⟩)) (go_keep)
    (first | (go_at_call 7; first | (refine (itoa3 _).mono ?_; rintro e w6 ⟨rfl, rfl⟩) | (refine (itoa7 _).mono ?_; rintro e w6 ⟨rfl, rfl⟩)) | (go_at_call 5; refine (err40 _).mono ?_; rintro e w6 ⟨rfl, rfl⟩))
  go_wp2
  go_ret
  exact ⟨rfl, _, rfl⟩
theorem unwrap_any (g : Nat) (w : World) (c0 : w.cell? ⟨g, 0, none⟩ = some (.int .i64 40)) : Calls Tryd.prog 6 #[.pointer (some ⟨g, 0, none⟩)] w (SE (.iface 22 (.int .i64 40)) w) := by
  go_enter Tryd.func6, Tryd.ntmps6
  go_wp2
  go_ret
  exact ⟨rfl, rfl⟩
theorem same_code (w : World) : (binOp .eql 27 (.iface 22 (.int .i64 40)) (.iface 22 (.int .i64 40))).run Tryd.prog w = .ok (.bool true) w := by
  have h27 : Tryd.prog.underlying 27 = some _ := Tryd.underlying27
  have h22 : Tryd.prog.underlying 22 = some (.int .i64) := by kernel_rfl
  have hc : (Tryd.prog.info? 22).map (fun i => i.comparable) = some true := by kernel_rfl
  obtain ⟨i, hi, hcc⟩ := Option.map_eq_some_iff.1 hc
  have key : ∀ d, (Op.equalIn (d + 2) 27 (.iface 22 (.int .i64 40)) (.iface 22 (.int .i64 40))).run Tryd.prog w = .ok true w := by
    intro d
    simp [Op.equalIn, run_underlying h27, run_underlying h22, typeInfo, hi, hcc]
  have k := key 9998
  simp only [binOp]
  simp [Op.equal, Op.maxDepth, k]
set_option maxRecDepth 100000 in
theorem law_names (w : World) : Calls Tryd.prog 3 #[] w fun e w' => e = .returned (.bool true) ∧ Below w.heap.size w w' := by
  have he := same_code
  have hb : Below w.heap.size w (w.alloc (.cells #[.int .i64 40, .int .i64 3, .int .i64 7, .string ⟨#[98, 111, 98]⟩] 24)) := (Below.refl _ w).alloc (Nat.le_refl _) _
  go_enter Tryd.func3, Tryd.ntmps3
  go_wp2_with fail
  refine (fault_err w.heap.size _ (by simp) (by simp) (by simp) (by simp)).mono ?_
  rintro e w1 ⟨rfl, n, rfl⟩
  go_wp2_with fail
  refine (err60 _).mono ?_
  rintro e w1 ⟨rfl, rfl⟩
  go_wp2_with fail
  refine (unwrap_any w.heap.size _ (by simp)).mono ?_
  rintro e w1 ⟨rfl, rfl⟩
  go_wp2
  go_ret
  exact ⟨rfl, hb.os, hb.tape, hb.output, hb.size, hb.block⟩
end Go.Proofs.YtaoekfdpnmpmhaaDoor

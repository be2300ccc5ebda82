/- The document's Up. -/
import Derived.Test.YthjldlgmfplngaaBrd
namespace Go.Proofs.Ythjldlgmfplngaa
open Go.RowKit Go.Mm Go.Maps Go.Reach Go.WideMaps
set_option maxRecDepth 100000 in
set_option maxHeartbeats 1000000 in
theorem rup_any (ps : List Pr) (x : ByteArray) (A : Option Addr) (N c : Nat) (w : World) (hr : Rd w A N 2 (ps.flatMap fPr)) (hN : ps.length = N) (hl : N * 32 + 16 ≤ 140737488355328) :
    Calls Try.prog 18 #[.slice A N c, .string x] w (UpE ps x w) := by
  have BC := Mm.hid (breadth_any ps x A N c w hr hN hl)
  clear hr hN hl
  go_enter Try.func18, Try.ntmps18
  go_wp2_with (go_at_call 42; refine BC.out.mono ?_; rintro e w1 ⟨v, r, L, k, rfl, h1, h2, h3, h4, h5⟩; obtain ⟨A1, c1, rfl, hc1, _, _⟩ := own_slice h3; obtain ⟨A2, c2, rfl, hc2, _, _⟩ := own_slice h4; have H1 := Mm.hid h1; have H2 := Mm.hid h2; have H3 := Mm.hid h3; have H5 := Mm.hid h5; clear h1 h2 h3 h4 h5)
  go_ret
  have fa := Fr.alloc (fun _ => False) w1 (.cells #[.slice A1 L.length c1, .slice A2 L.length c2] 66)
  exact ⟨_, L, rfl, ⟨k, H1.out, H2.out⟩, fa.own H3.out fun _ _ h => h, H5.out.trans fa fun _ _ h => h⟩
end Go.Proofs.Ythjldlgmfplngaa

/- The walk of alive: the sum of abc. -/
import Derived.Test.YtdkcgjjofhhppaaDoorShaHex
namespace Go.Proofs.YtdkcgjjofhhppaaDoor
set_option linter.unusedVariables false
set_option linter.unusedSimpArgs false
open Go.RowKit Sha
set_option maxRecDepth 20000 in
theorem alive_any (w : World) (hk : KLaid w) :
    Calls Tryd.prog 7 #[] w fun e w' => e = .returned (.bool true) ∧ Below w.heap.size w w' := by
  have HK := Lib.hid hk
  clear hk
  have h32 := Lib.hid (sha_length [97, 98, 99])
  have hA := sha_abc
  go_enter Tryd.func7, Tryd.ntmps7
  go_wp2_with (first
    | (go_at_call 8; refine (shaSum_any [97, 98, 99] w HK.out (by simp)).mono ?_; rintro e w1 ⟨rfl, b1⟩; have B1 := Lib.hid b1; clear b1)
    | (go_at_call 14; refine (hex_any (sha [97, 98, 99]) (by rw [h32.out]; omega) w1).mono ?_; rintro e w2 ⟨rfl, b2⟩; have B2 := Lib.hid b2; clear b2))
  go_ret
  exact ⟨rfl, B1.out.trans (B2.out.mono B1.out.size)⟩
end Go.Proofs.YtdkcgjjofhhppaaDoor

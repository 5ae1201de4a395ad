/- The walk of the statements' own alive: the chapter's first example, Same. -/
import Derived.Test.YtkipemkclgamfaaDoorHmacEx
import Derived.Test.YtkipemkclgamfaaDoorHmacW3
import Derived.Test.YtkipemkclgamfaaDoorHmacR
import Derived.Test.YtkipemkclgamfaaDoorShaHex
import Derived.Test.YtkipemkclgamfaaDoorKLaid
namespace Go.Proofs.YtkipemkclgamfaaDoor
set_option linter.unusedVariables false
set_option linter.unusedSimpArgs false
open Go.RowKit Sha
attribute [local irreducible] Sha.hmac Sha.hexs
set_option maxRecDepth 20000 in
set_option maxHeartbeats 1000000 in
theorem alive_any (w : World) (hk : KLaid w) :
    Calls Tryd.prog 8 #[] w fun e w' => e = .returned (.bool true) ∧ Below w.heap.size w w' := by
  have HK := Lib.hid hk
  clear hk
  have h32 := Lib.hid (hmac_length jefe want)
  have hA := hmac_jefe
  unfold hexJ at hA
  go_enter Tryd.func8, Tryd.ntmps8
  go_wp2_with fail
  refine (hmac_any jefe want w HK.out (by decide) (by decide)).mono ?_; rintro e w1 ⟨rfl, b1⟩
  have B1 := Lib.hid b1
  clear b1
  go_wp2_with fail
  refine (hex_any (hmac jefe want) (by rw [h32.out]; omega) w1).mono ?_; rintro e w2 ⟨rfl, b2⟩
  have B2 := Lib.hid (below_more B1.out b2 B1.out.size)
  clear b2
  go_wp2_with fail
  refine (hsame_any [97, 98] [97, 98] (by decide) (by decide) w2).mono ?_; rintro e w3 ⟨rfl, b3⟩
  have B3 := Lib.hid (below_more B2.out b3 B2.out.size)
  clear b3
  go_wp2_with fail
  refine (hsame_any [97, 98] [97, 99] (by decide) (by decide) w3).mono ?_; rintro e w4 ⟨rfl, b4⟩
  have B4 := Lib.hid (below_more B3.out b4 B3.out.size)
  clear b4
  go_wp2_with fail
  go_ret
  exact ⟨rfl, B4.out⟩
end Go.Proofs.YtkipemkclgamfaaDoor

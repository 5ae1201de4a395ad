/- The walk of the law ShaExamples. -/
import Derived.Test.YtdkcgjjofhhppaaDoorShaAlive
import Derived.Test.YtdkcgjjofhhppaaDoorShaEx2
namespace Go.Proofs.YtdkcgjjofhhppaaDoor
set_option linter.unusedVariables false
set_option linter.unusedSimpArgs false
open Go.RowKit Sha
attribute [local irreducible] Sha.sha Sha.hexs
set_option maxRecDepth 20000 in
set_option maxHeartbeats 2000000 in
theorem law_ShaExamples (w : World) (hk : KLaid w) :
    Calls Tryd.prog 4 #[] w fun e w' => e = .returned (.bool true) ∧ Below w.heap.size w w' := by
  have HK := Lib.hid hk
  clear hk
  have h0 := Lib.hid (sha_length [])
  have h1 := Lib.hid (sha_length long56)
  have e0 := sha_nil
  have e1 := sha_long
  unfold hex56 at e1
  go_enter Tryd.func4, Tryd.ntmps4
  go_wp2_with (first
    | (go_at_call 10; refine (write_none [97] _).mono ?_; rintro e w' ⟨rfl, rfl⟩)
    | (go_at_call 11; refine (sum_none _).mono ?_; rintro e w' ⟨rfl, rfl⟩)
    | (go_at_call 12; refine (len_none _).mono ?_; rintro e w' ⟨rfl, rfl⟩)
    | (go_at_call 13; refine (copy_none _).mono ?_; rintro e w' ⟨rfl, rfl⟩)
    | (go_at_call 8; refine (shaSum_any [] w HK.out (by simp)).mono ?_; rintro e w1 ⟨rfl, b1⟩; have B1 := Lib.hid b1; clear b1))
  go_wp2_with (first
    | (go_at_call 14; refine (hex_any (sha []) (by rw [h0.out]; omega) w1).mono ?_; rintro e w2 ⟨rfl, b2⟩; have B2 := Lib.hid (B1.out.trans (b2.mono B1.out.size)); clear b2))
  go_wp2_with (first
    | (go_at_call 8; refine (shaSum_any long56 w2 (HK.out.below B2.out) (by decide)).mono ?_; rintro e w3 ⟨rfl, b3⟩; have B3 := Lib.hid (B2.out.trans (b3.mono B2.out.size)); clear b3))
  go_wp2_with (first
    | (go_at_call 14; refine (hex_any (sha long56) (by rw [h1.out]; omega) w3).mono ?_; rintro e w4 ⟨rfl, b4⟩; have B4 := Lib.hid (B3.out.trans (b4.mono B3.out.size)); clear b4))
  go_wp2_with (first
    | (go_at_call 7; refine (alive_any w4 (HK.out.below B4.out)).mono ?_; rintro e w5 ⟨rfl, b5⟩; have B5 := Lib.hid (B4.out.trans (b5.mono B4.out.size)); clear b5))
  go_ret
  exact ⟨rfl, B5.out⟩
end Go.Proofs.YtdkcgjjofhhppaaDoor

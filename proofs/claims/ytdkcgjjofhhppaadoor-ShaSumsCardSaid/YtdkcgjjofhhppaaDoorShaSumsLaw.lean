/- The walk of the law ShaSums. -/
import Derived.Test.YtdkcgjjofhhppaaDoorShaAlive
import Derived.Test.YtdkcgjjofhhppaaDoorShaR5
namespace Go.Proofs.YtdkcgjjofhhppaaDoor
set_option linter.unusedVariables false
set_option linter.unusedSimpArgs false
open Go.RowKit Sha
set_option maxRecDepth 20000 in
theorem law_ShaSums (s : List UInt8) (hs : s.length ≤ maxLen) (w : World) (hk : KLaid w) :
    Calls Tryd.prog 3 #[.string ⟨s.toArray⟩] w fun e w' => e = .returned (.bool true) ∧ Below w.heap.size w w' := by
  have HK := Lib.hid hk
  have HS := Lib.hid hs
  clear hk hs
  by_cases hl : 8192 < s.length
  · have l1 : decide ((8192 : Int) < (s.length : Int)) = true := by rw [decide_eq_true_iff]; omega
    go_enter Tryd.func3, Tryd.ntmps3
    go_wp2_with (go_at_call 7; refine (alive_any w HK.out).mono ?_; rintro e w1 ⟨rfl, b1⟩)
    go_ret
    exact ⟨rfl, b1⟩
  · have l1 : decide ((8192 : Int) < (s.length : Int)) = false := by rw [decide_eq_false_iff_not]; omega
    have l2 : (s.length : Int) ≤ 8192 := by omega
    have l3 : s.length < 1000000000000 := by omega
    have L3 := Lib.hid l3
    clear l3 hl
    go_enter Tryd.func3, Tryd.ntmps3
    go_wp2_with (first
      | (go_at_call 8; refine (shaSum_any s w HK.out L3.out).mono ?_; rintro e w1 ⟨rfl, b1⟩; have B1 := Lib.hid b1; clear b1)
      | (go_at_call 9; refine (refSum_any s L3.out w1).mono ?_; rintro e w2 ⟨rfl, b2⟩; have B2 := Lib.hid (B1.out.trans (b2.mono B1.out.size)); clear b2)
      | (go_at_call 7; refine (alive_any w2 (HK.out.below B2.out)).mono ?_; rintro e w3 ⟨rfl, b3⟩; have B3 := Lib.hid b3; clear b3))
    go_ret
    exact ⟨rfl, B2.out.trans (B3.out.mono B2.out.size)⟩
end Go.Proofs.YtdkcgjjofhhppaaDoor

/- The walk of the law HmacSums. -/
import Derived.Test.YtkipemkclgamfaaDoorHmacAlive
namespace Go.Proofs.YtkipemkclgamfaaDoor
set_option linter.unusedVariables false
set_option linter.unusedSimpArgs false
open Go.RowKit Sha
attribute [local irreducible] Sha.hmac Sha.hexs Sha.sha
attribute [local go_sem] ByteArray.mk_append_mk

set_option maxRecDepth 20000 in
set_option maxHeartbeats 2000000 in
theorem law_HmacSums (key : List UInt8) (hkey : key.length ≤ maxLen) (s : List UInt8) (hs : s.length ≤ maxLen) (w : World) (hk : KLaid w) :
    Calls Tryd.prog 3 #[.string ⟨key.toArray⟩, .string ⟨s.toArray⟩] w fun e w' => e = .returned (.bool true) ∧ Below w.heap.size w w' := by
  have HK := Lib.hid hk
  clear hk hkey hs
  have key0 : ∀ (A B : Bool), A = decide ((4096 : Int) < (key.length : Int)) → B = decide ((8192 : Int) < (s.length : Int)) → (A || B) = true →
      Calls Tryd.prog 3 #[.string ⟨key.toArray⟩, .string ⟨s.toArray⟩] w fun e w' => e = .returned (.bool true) ∧ Below w.heap.size w w' := by
    intro A B hA hB hAB
    cases A <;> cases B <;> first | (cases hAB; done) | skip
    all_goals (
      replace hA := hA.symm
      replace hB := hB.symm
      go_enter Tryd.func3, Tryd.ntmps3
      go_wp2_with fail
      refine (alive_any w HK.out).mono ?_; rintro e w1 ⟨rfl, b1⟩
      go_wp2_with fail
      go_ret
      exact ⟨rfl, b1⟩)
  by_cases hl : 4096 < key.length ∨ 8192 < s.length
  · exact key0 _ _ rfl rfl (by simp only [Bool.or_eq_true, decide_eq_true_iff]; omega)
  · have l1 : decide ((4096 : Int) < (key.length : Int)) = false := by rw [decide_eq_false_iff_not]; omega
    have l2 : decide ((8192 : Int) < (s.length : Int)) = false := by rw [decide_eq_false_iff_not]; omega
    have m1 : key.length ≤ 4096 := by omega
    have m2 : s.length ≤ 8192 := by omega
    clear key0 hl
    go_enter Tryd.func3, Tryd.ntmps3
    go_wp2_with fail
    refine (hmac_any key s w HK.out (by omega) (by omega)).mono ?_; rintro e w1 ⟨rfl, b1⟩
    have B1 := Lib.hid b1; clear b1
    go_wp2_with fail
    refine (refHmac_any key s (by omega) (by omega) w1).mono ?_; rintro e w2 ⟨rfl, b2⟩
    have B2 := Lib.hid (below_more B1.out b2 B1.out.size); clear b2
    go_wp2_with fail
    refine (alive_any w2 (HK.out.below B2.out)).mono ?_; rintro e w3 ⟨rfl, b3⟩
    go_wp2_with fail
    go_ret
    exact ⟨rfl, below_more B2.out b3 B2.out.size⟩
end Go.Proofs.YtkipemkclgamfaaDoor

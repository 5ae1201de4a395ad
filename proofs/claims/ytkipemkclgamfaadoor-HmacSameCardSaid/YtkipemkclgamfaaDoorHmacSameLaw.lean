/- The walk of the law HmacSame. -/
import Derived.Test.YtkipemkclgamfaaDoorHmacAlive
namespace Go.Proofs.YtkipemkclgamfaaDoor
set_option linter.unusedVariables false
set_option linter.unusedSimpArgs false
open Go.RowKit Sha
attribute [local irreducible] Sha.hmac Sha.hexs Sha.sha
attribute [local go_sem] ByteArray.mk_append_mk

set_option maxRecDepth 20000 in
set_option maxHeartbeats 2000000 in
theorem law_HmacSame (a : List UInt8) (ha : a.length ≤ maxLen) (b : List UInt8) (hb : b.length ≤ maxLen) (w : World) (hk : KLaid w) :
    Calls Tryd.prog 7 #[.string ⟨a.toArray⟩, .string ⟨b.toArray⟩] w fun e w' => e = .returned (.bool true) ∧ Below w.heap.size w w' := by
  have HK := Lib.hid hk
  clear hk ha hb
  have key0 : ∀ (A B : Bool), A = decide ((8192 : Int) < (a.length : Int)) → B = decide ((8192 : Int) < (b.length : Int)) → (A || B) = true →
      Calls Tryd.prog 7 #[.string ⟨a.toArray⟩, .string ⟨b.toArray⟩] w fun e w' => e = .returned (.bool true) ∧ Below w.heap.size w w' := by
    intro A B hA hB hAB
    cases A <;> cases B <;> first | (cases hAB; done) | skip
    all_goals (
      replace hA := hA.symm
      replace hB := hB.symm
      go_enter Tryd.func7, Tryd.ntmps7
      go_wp2_with fail
      refine (alive_any w HK.out).mono ?_; rintro e w1 ⟨rfl, b1⟩
      go_wp2_with fail
      go_ret
      exact ⟨rfl, b1⟩)
  by_cases hl : 8192 < a.length ∨ 8192 < b.length
  · exact key0 _ _ rfl rfl (by simp only [Bool.or_eq_true, decide_eq_true_iff]; omega)
  · have l1 : decide ((8192 : Int) < (a.length : Int)) = false := by rw [decide_eq_false_iff_not]; omega
    have l2 : decide ((8192 : Int) < (b.length : Int)) = false := by rw [decide_eq_false_iff_not]; omega
    have m1 : a.length ≤ 8192 := by omega
    have m2 : b.length ≤ 8192 := by omega
    clear key0 hl
    go_enter Tryd.func7, Tryd.ntmps7
    go_wp2_with fail
    refine (hsame_any a b (by omega) (by omega) w).mono ?_; rintro e w1 ⟨rfl, b1⟩
    have B1 := Lib.hid b1; clear b1
    have hab : ((a == b) == (a == b)) = true := by rw [beq_iff_eq]
    go_wp2_with fail
    refine (hsame_any a a (by omega) (by omega) w1).mono ?_; rintro e w2 ⟨rfl, b2⟩
    have B2 := Lib.hid (below_more B1.out b2 B1.out.size); clear b2
    have haa : (a == a) = true := by rw [beq_iff_eq]
    go_wp2_with fail
    refine (alive_any w2 (HK.out.below B2.out)).mono ?_; rintro e w3 ⟨rfl, b3⟩
    go_wp2_with fail
    go_ret
    exact ⟨rfl, below_more B2.out b3 B2.out.size⟩
end Go.Proofs.YtkipemkclgamfaaDoor

/- The walk of the law HmacExamples. -/
import Derived.Test.YtkipemkclgamfaaDoorHmacAlive
namespace Go.Proofs.YtkipemkclgamfaaDoor
set_option linter.unusedVariables false
set_option linter.unusedSimpArgs false
open Go.RowKit Sha
attribute [local irreducible] Sha.hmac Sha.hexs Sha.sha
attribute [local go_sem] ByteArray.mk_append_mk

theorem eleven_next (k : Nat) : List.replicate k (11 : UInt8) ++ [11] = List.replicate (k + 1) 11 := by rw [List.replicate_succ']
set_option maxRecDepth 20000 in
set_option maxHeartbeats 2000000 in
theorem law_HmacExamples (w : World) (hk : KLaid w) :
    Calls Tryd.prog 4 #[] w fun e w' => e = .returned (.bool true) ∧ Below w.heap.size w w' := by
  have HK := Lib.hid hk
  clear hk
  go_enter Tryd.func4, Tryd.ntmps4
  go_wp2_with fail
  go_loop [2, 3] (fun x i => ∃ k : Nat, k ≤ 20 ∧ i = .int .i64 k ∧ ∃ t : List UInt8, x = .string ⟨t.toArray⟩ ∧ Hid (t = List.replicate k 11) ∧ t.length ≤ 20) (fun _ i => 20 - (intOf i).toNat)
  case atStart => exact ⟨0, by omega, rfl, [], rfl, rfl, by simp⟩
  case round =>
    obtain ⟨k, hk, rfl, t, rfl, HT, hl⟩ := hrel
    by_cases hlt : k < 20
    · have hl2 : (t ++ [(11 : UInt8)]).length ≤ 20 := by rw [HT.out]; simp; omega
      go_wp2_with fail
      go_round
      case rel => exact ⟨k + 1, by omega, by go_num, t ++ [11], rfl, Lib.hid (by rw [HT.out, eleven_next]), hl2⟩
      case measure => simp [intOf]; omega
    · obtain rfl : k = 20 := by omega
      have HT2 : t = eleven := HT.out
      subst HT2
      have h32 := Lib.hid (hmac_length eleven hithere)
      have hA := hmac_eleven
      unfold hexT at hA
      clear hl HT
      go_wp2_with fail
      refine (keysum_none [97] w).mono ?_; rintro e w' ⟨rfl, rfl⟩
      go_wp2_with fail
      refine (hmac_any eleven hithere w HK.out (by decide) (by decide)).mono ?_; rintro e w1 ⟨rfl, b1⟩
      have B1 := Lib.hid b1; clear b1
      go_wp2_with fail
      refine (hex_any (hmac eleven hithere) (by rw [h32.out]; omega) w1).mono ?_; rintro e w2 ⟨rfl, b2⟩
      have B2 := Lib.hid (below_more B1.out b2 B1.out.size); clear b2
      go_wp2_with fail
      refine (alive_any w2 (HK.out.below B2.out)).mono ?_; rintro e w3 ⟨rfl, b3⟩
      go_wp2_with fail
      go_ret
      exact ⟨rfl, below_more B2.out b3 B2.out.size⟩
end Go.Proofs.YtkipemkclgamfaaDoor

/- The walk of the law HmacKeys. -/
import Derived.Test.YtkipemkclgamfaaDoorHmacAlive
import Derived.OpenShut
namespace Go.Proofs.YtkipemkclgamfaaDoor
set_option linter.unusedVariables false
set_option linter.unusedSimpArgs false
open Go.RowKit Sha
attribute [local irreducible] Sha.hmac Sha.hexs Sha.sha
attribute [local go_sem] ByteArray.mk_append_mk

set_option maxRecDepth 20000 in
set_option maxHeartbeats 2000000 in
theorem law_HmacKeys (key : List UInt8) (hkey : key.length ≤ maxLen) (s : List UInt8) (hs : s.length ≤ maxLen) (v : Int) (hv : (Lit.int .u8 v).wf = true) (w : World) (hk : KLaid w) :
    Calls Tryd.prog 6 #[.string ⟨key.toArray⟩, .string ⟨s.toArray⟩, .int .u8 v] w fun e w' => e = .returned (.bool true) ∧ Below w.heap.size w w' := by
  have HK := Lib.hid hk
  clear hk hkey hs
  obtain ⟨v1, v2⟩ := bounds_u8 hv
  clear hv
  have key0 : ∀ (A B : Bool), A = decide ((4096 : Int) < (key.length : Int)) → B = decide ((4096 : Int) < (s.length : Int)) → (A || B) = true →
      Calls Tryd.prog 6 #[.string ⟨key.toArray⟩, .string ⟨s.toArray⟩, .int .u8 v] w fun e w' => e = .returned (.bool true) ∧ Below w.heap.size w w' := by
    intro A B hA hB hAB
    cases A <;> cases B <;> first | (cases hAB; done) | skip
    all_goals (
      replace hA := hA.symm
      replace hB := hB.symm
      go_enter Tryd.func6, Tryd.ntmps6
      go_wp2_with fail
      refine (alive_any w HK.out).mono ?_; rintro e w1 ⟨rfl, b1⟩
      go_wp2_with fail
      go_ret
      exact ⟨rfl, b1⟩)
  by_cases hl : 4096 < key.length ∨ 4096 < s.length
  · exact key0 _ _ rfl rfl (by simp only [Bool.or_eq_true, decide_eq_true_iff]; omega)
  · have l1 : decide ((4096 : Int) < (key.length : Int)) = false := by rw [decide_eq_false_iff_not]; omega
    have l2 : decide ((4096 : Int) < (s.length : Int)) = false := by rw [decide_eq_false_iff_not]; omega
    have m1 : key.length ≤ 4096 := by omega
    have m2 : s.length ≤ 4096 := by omega
    clear key0 hl
    by_cases h64 : 64 < key.length
    · have h64i : (64 : Int) < key.length := by omega
      have HE := Lib.hid (hmac_long s h64)
      have HL := Lib.hid (sha_length key)
      go_enter Tryd.func6, Tryd.ntmps6
      go_wp2_with fail
      refine (hmac_any key s w HK.out (by omega) (by omega)).mono ?_; rintro e w1 ⟨rfl, b1⟩
      have B1 := Lib.hid b1; clear b1
      go_wp2_with fail
      refine (refSum_any key (by omega) w1).mono ?_; rintro e w2 ⟨rfl, b2⟩
      have B2 := Lib.hid (below_more B1.out b2 B1.out.size); clear b2
      go_wp2_with fail
      refine (hmac_any (sha key) s w2 (HK.out.below B2.out) (by rw [HL.out]; omega) (by omega)).mono ?_; rintro e w3 ⟨rfl, b3⟩
      have B3 := Lib.hid (below_more B2.out b3 B2.out.size); clear b3
      rw [HE.out]
      go_wp2_with fail
      refine (alive_any w3 (HK.out.below B3.out)).mono ?_; rintro e w4 ⟨rfl, b4⟩
      go_wp2_with fail
      go_ret
      exact ⟨rfl, below_more B3.out b4 B3.out.size⟩
    · have h64i : (key.length : Int) ≤ 64 := by omega
      obtain ⟨n, hn⟩ : ∃ n : Nat, (n : Int) = v % (65 - (key.length : Int)) := ⟨(v % (65 - (key.length : Int))).toNat, by have := Int.emod_nonneg v (show (65 - (key.length : Int)) ≠ 0 by omega); omega⟩
      have hlt := Int.emod_lt_of_pos v (show 0 < (65 - (key.length : Int)) by omega)
      have hn64 : key.length + n ≤ 64 := by omega
      have e1 : v.tmod (65 - (key.length : Int)) = (n : Int) := by rw [Int.tmod_eq_emod_of_nonneg (by omega)]; exact hn.symm
      have e2 : v % (65 - (key.length : Int)) = (n : Int) := hn.symm
      have e3 : IntKind.i64.wrap v = v := by rw [IntWalk.i64_in _ (by omega)]
      have e4 : IntKind.i64.wrap (65 - (key.length : Int)) = 65 - (key.length : Int) := by rw [IntWalk.i64_in _ (by omega)]
      have e5 : IntKind.i64.wrap (n : Int) = (n : Int) := by rw [IntWalk.i64_in _ (by omega)]
      have hmk := run_make_bytes n (by omega)
      have hcv := conv_zeros n
      have z2 : (zrow n).length ≤ 64 := by rw [zrow_length]; omega
      have HE := Lib.hid (hmac_more s n hn64)
      have HML : Hid ((key ++ zrow n).length < 1000000000) := by show _ < _; rw [List.length_append]; omega
      clear hn hlt
      go_enter Tryd.func6, Tryd.ntmps6
      go_wp2_with fail
      have HB0 : Hid (Below w.heap.size w (w.alloc (.cells (brow (zrow n)) 5))) := (Below.refl _ _).alloc (Nat.le_refl _) _
      clear hmk hcv e1 e2 e3 e4 e5
      refine (hmac_any key s _ (HK.out.below HB0.out) (by omega) (by omega)).mono ?_; rintro e w1 ⟨rfl, b1⟩
      have B1 := Lib.hid (below_more HB0.out b1 HB0.out.size); clear b1
      go_wp2_with fail
      refine (hmac_any (key ++ zrow n) s w1 (HK.out.below B1.out) HML.out (by omega)).mono ?_; rintro e w2 ⟨rfl, b2⟩
      have B2 := Lib.hid (below_more B1.out b2 B1.out.size); clear b2
      rw [show hmac (key ++ zrow n) s = hmac key s from HE.out]
      go_wp2_with fail
      refine (alive_any w2 (HK.out.below B2.out)).mono ?_; rintro e w3 ⟨rfl, b3⟩
      go_wp2_with fail
      go_ret
      exact ⟨rfl, below_more B2.out b3 B2.out.size⟩
end Go.Proofs.YtkipemkclgamfaaDoor

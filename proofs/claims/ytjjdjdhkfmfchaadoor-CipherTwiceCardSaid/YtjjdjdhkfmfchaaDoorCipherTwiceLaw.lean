/- The walk of the law CipherTwice. -/
import Derived.Test.YtjjdjdhkfmfchaaDoorCiphAlive
import Derived.Deep.RegionHeld3
namespace Go.Proofs.YtjjdjdhkfmfchaaDoor
set_option linter.unusedVariables false
set_option linter.unusedSimpArgs false
open Go.RowKit Sha Ciph
attribute [local go_sem] ByteArray.mk_append_mk ByteArray.extract_mk

/-- two texts sealed with one nonce under one key. -/
theorem twice_plain (key nonce a b : List UInt8) (hn : nonce.length = 12) (n : Nat) (h : n = min a.length b.length) :
    xorP (((sealed key nonce a).take (12 + n)).drop 12) (((sealed key nonce b).take (12 + n)).drop 12) = xorP (a.take n) (b.take n) := by
  have hx : ∀ s : List UInt8, n ≤ s.length → ((sealed key nonce s).take (12 + n)).drop 12 = strm (strK key) nonce (s.take n) := by
    intro s hs
    unfold sealed hidden
    rw [List.append_assoc, List.take_append, List.take_of_length_le (by omega), show 12 + n - nonce.length = n by omega, List.drop_append, List.drop_eq_nil_of_le (by omega), show 12 - nonce.length = 0 by omega, List.nil_append, List.drop_zero,
      List.take_append_of_le_length (by rw [strm_length]; exact hs), strm_take]
  rw [hx a (by omega), hx b (by omega)]
  exact xorP_strm _ _ _ _ 0 (by rw [List.length_take, List.length_take]; omega)

attribute [local irreducible] Sha.hmac Sha.sha Ciph.sealR Ciph.openR
set_option maxRecDepth 20000 in
set_option maxHeartbeats 4000000 in
theorem law_CipherTwice (key : List UInt8) (hkey : key.length ≤ maxLen) (nonce : List UInt8) (hnonce : nonce.length ≤ maxLen) (a : List UInt8) (ha : a.length ≤ maxLen) (b : List UInt8) (hb : b.length ≤ maxLen) (w : World) (hk : KLaid w) :
    Calls Tryd.prog 6 #[.string ⟨key.toArray⟩, .string ⟨nonce.toArray⟩, .string ⟨a.toArray⟩, .string ⟨b.toArray⟩] w fun e w' => e = .returned (.bool true) ∧ Below w.heap.size w w' := by
  have HK := Lib.hid hk
  clear hk hkey hnonce ha hb
  cases hA : longB key nonce a
  · cases hB : longB key nonce b
    · obtain ⟨m1, m2, m3⟩ := longB_false hA
      obtain ⟨-, -, m4⟩ := longB_false hB
      by_cases hn : nonce.length = 12
      · obtain ⟨X, hX⟩ : ∃ X, X = sealed key nonce a := ⟨_, rfl⟩
        obtain ⟨Y, hY⟩ : ∃ Y, Y = sealed key nonce b := ⟨_, rfl⟩
        have HX : Hid (sealR key nonce a = (X, 0)) := by show _ = _; rw [hX]; unfold sealR; rw [if_neg (by omega), if_neg (by omega)]
        have HY : Hid (sealR key nonce b = (Y, 0)) := by show _ = _; rw [hY]; unfold sealR; rw [if_neg (by omega), if_neg (by omega)]
        have lx : X.length = 44 + a.length := by rw [hX, sealed_length]; omega
        have ly : Y.length = 44 + b.length := by rw [hY, sealed_length]; omega
        obtain ⟨n, hnm⟩ : ∃ n, n = min a.length b.length := ⟨_, rfl⟩
        obtain ⟨p, hp⟩ : ∃ p, p = 12 + n := ⟨_, rfl⟩
        have HE : Hid (xorP (List.take (p - 12) (List.drop 12 X)) (List.take (p - 12) (List.drop 12 Y)) = xorP (a.take n) (b.take n)) := by
          have h := twice_plain key nonce a b hn n hnm
          rw [List.drop_take, List.drop_take, ← hp] at h
          show _ = _; rw [hX, hY]; exact h
        have HC1 : Hid (∀ W, Calls Tryd.prog 13 #[.string ⟨(List.take (p - 12) (List.drop 12 X)).toArray⟩, .string ⟨(List.take (p - 12) (List.drop 12 Y)).toArray⟩] W fun e w' => e = .returned (.string ⟨(xorP (List.take n a) (List.take n b)).toArray⟩) ∧ Below W.heap.size W w') :=
          fun W => by rw [← HE.out]; exact rxor_any _ _ (by rw [List.length_take]; omega) (by rw [List.length_take]; omega) W
        have HC2 : Hid (∀ W, Calls Tryd.prog 13 #[.string ⟨(List.take n a).toArray⟩, .string ⟨(List.take n b).toArray⟩] W fun e w' => e = .returned (.string ⟨(xorP (List.take n a) (List.take n b)).toArray⟩) ∧ Below W.heap.size W w') :=
          fun W => rxor_any _ _ (by rw [List.length_take]; omega) (by rw [List.length_take]; omega) W
        have hee : (xorP (a.take n) (b.take n) == xorP (a.take n) (b.take n)) = true := by rw [beq_iff_eq]
        have e0 : min (a.length : Int) (b.length : Int) = (n : Int) := by omega
        have n1 : n ≤ a.length := by omega
        have n2 : n ≤ b.length := by omega
        have e1 : IntKind.i64.wrap (12 + (n : Int)) = (p : Int) := by rw [IntWalk.i64_in _ (by omega)]; omega
        have e2 : 12 + (n : Int) = (p : Int) := by omega
        have e3 : IntKind.i64.wrap (p : Int) = (p : Int) := by rw [IntWalk.i64_in _ (by omega)]
        have k1 : (p : Int) ≤ X.length := by omega
        have k2 : (p : Int) ≤ Y.length := by omega
        have k3 : p ≤ X.length := by omega
        have k4 : p ≤ Y.length := by omega
        have k5 : (n : Int) ≤ a.length := by omega
        have k6 : (n : Int) ≤ b.length := by omega
        have k7 : (12 : Int) ≤ (p : Int) := by omega
        have k8 : (0 : Int) ≤ (n : Int) := by omega
        have k9 : 12 ≤ p := by omega
        have j1 : (12 : Int) ≤ X.length := by omega
        have j2 : (12 : Int) ≤ Y.length := by omega
        have j3 : 12 ≤ X.length := by omega
        have j4 : 12 ≤ Y.length := by omega
        have j5 : (0 : Int) ≤ 12 := by omega
        have j6 : (0 : Int) ≤ p := by omega
        have x1 : decide ((X.length : Int) < (p : Int)) = false := by rw [decide_eq_false_iff_not]; omega
        have x2 : decide ((Y.length : Int) < (p : Int)) = false := by rw [decide_eq_false_iff_not]; omega
        have x3 : decide (X.length < p) = false := by rw [decide_eq_false_iff_not]; omega
        have x4 : decide (Y.length < p) = false := by rw [decide_eq_false_iff_not]; omega
        clear hp HE
        generalize xorP (List.take n a) (List.take n b) = z at *
        clear hX hY hnm hn
        go_enter Tryd.func6, Tryd.ntmps6
        go_wp2_with fail
        refine (long_any key nonce a w).mono ?_; rintro e w0 ⟨rfl, rfl⟩
        rw [hA]
        go_wp2_with fail
        refine (long_any key nonce b w0).mono ?_; rintro e w1 ⟨rfl, rfl⟩
        rw [hB]
        go_wp2_with fail
        refine (cseal_any key nonce a (by omega) (by omega) (by omega) w1 HK.out).mono ?_; rintro e w2 ⟨rfl, b2⟩
        rw [HX.out]
        unfold tup2
        have B2 := Lib.hid b2
        clear b2
        go_wp2_with fail
        refine (cseal_any key nonce b (by omega) (by omega) (by omega) w2 (HK.out.below B2.out)).mono ?_; rintro e w3 ⟨rfl, b3⟩
        rw [HY.out]
        unfold tup2
        have B3 := Lib.hid (below_more B2.out b3 B2.out.size)
        clear b3
        go_wp2_with fail
        have B3D := Lib.hid (B3.out.drew)
        clear B3
        go_region_held3 (fun _ => True) (first | trivial) (first
          | (go_at_call 13; (with_reducible refine (HC1.out _).mono ?_); rintro e w5 ⟨rfl, b5⟩; have B5 := Lib.hid (below_more B3D.out b5 B3D.out.size); clear b5)
          | (go_at_call 13; (with_reducible refine (HC2.out _).mono ?_); rintro e w6 ⟨rfl, b6⟩; have B6 := Lib.hid (below_more B5.out b6 B5.out.size); clear b6)
          | (go_at_call 8; (with_reducible refine (alive_any _ (HK.out.below B6.out)).mono ?_); rintro e w7 ⟨rfl, b7⟩; have B7 := Lib.hid (below_more B6.out b7 B6.out.size); clear b7)
          | fail)
        all_goals
          go_wp2_with fail
          go_ret
          exact ⟨rfl, B7.out⟩
      · have HX : Hid (sealR key nonce a = ([], 2)) := by show _ = _; unfold sealR; rw [if_pos hn]
        have HY : Hid (sealR key nonce b = ([], 2)) := by show _ = _; unfold sealR; rw [if_pos hn]
        go_enter Tryd.func6, Tryd.ntmps6
        go_wp2_with fail
        refine (long_any key nonce a w).mono ?_; rintro e w0 ⟨rfl, rfl⟩
        rw [hA]
        go_wp2_with fail
        refine (long_any key nonce b w0).mono ?_; rintro e w1 ⟨rfl, rfl⟩
        rw [hB]
        go_wp2_with fail
        refine (cseal_any key nonce a (by omega) (by omega) (by omega) w1 HK.out).mono ?_; rintro e w2 ⟨rfl, b2⟩
        rw [HX.out]
        unfold tup2
        have B2 := Lib.hid b2
        clear b2
        go_wp2_with fail
        refine (cseal_any key nonce b (by omega) (by omega) (by omega) w2 (HK.out.below B2.out)).mono ?_; rintro e w3 ⟨rfl, b3⟩
        rw [HY.out]
        unfold tup2
        have B3 := Lib.hid (below_more B2.out b3 B2.out.size)
        clear b3
        go_wp2_with fail
        refine (alive_any w3 (HK.out.below B3.out)).mono ?_; rintro e w4 ⟨rfl, b4⟩
        have B4 := Lib.hid (below_more B3.out b4 B3.out.size)
        clear b4
        go_wp2_with fail
        go_ret
        exact ⟨rfl, B4.out⟩
    · go_enter Tryd.func6, Tryd.ntmps6
      go_wp2_with fail
      refine (long_any key nonce a w).mono ?_; rintro e w0 ⟨rfl, rfl⟩
      rw [hA]
      go_wp2_with fail
      refine (long_any key nonce b w0).mono ?_; rintro e w1 ⟨rfl, rfl⟩
      rw [hB]
      go_wp2_with fail
      refine (alive_any w1 HK.out).mono ?_; rintro e w2 ⟨rfl, b2⟩
      go_wp2_with fail
      go_ret
      exact ⟨rfl, b2⟩
  · go_enter Tryd.func6, Tryd.ntmps6
    go_wp2_with fail
    refine (long_any key nonce a w).mono ?_; rintro e w0 ⟨rfl, rfl⟩
    rw [hA]
    go_wp2_with fail
    refine (alive_any w0 HK.out).mono ?_; rintro e w2 ⟨rfl, b2⟩
    go_wp2_with fail
    go_ret
    exact ⟨rfl, b2⟩
end Go.Proofs.YtjjdjdhkfmfchaaDoor

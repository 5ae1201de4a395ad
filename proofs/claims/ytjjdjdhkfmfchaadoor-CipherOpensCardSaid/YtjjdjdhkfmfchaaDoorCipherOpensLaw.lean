/- The walk of the law CipherOpens. -/
import Derived.Test.YtjjdjdhkfmfchaaDoorCiphAlive
namespace Go.Proofs.YtjjdjdhkfmfchaaDoor
set_option linter.unusedVariables false
set_option linter.unusedSimpArgs false
open Go.RowKit Sha Ciph
attribute [local go_sem] ByteArray.mk_append_mk ByteArray.extract_mk

theorem openR_long {key x L : List UInt8} (h : openR key x = (L, 0)) : 12 ≤ x.length ∧ L.length ≤ x.length := by
  unfold openR at h
  split at h
  · cases h
  split at h
  · cases h
  split at h
  · cases h
  simp only [Prod.mk.injEq, and_true] at h
  refine ⟨by omega, ?_⟩
  rw [← h, strm_length, List.length_drop, List.length_take]
  omega

attribute [local irreducible] Sha.hmac Sha.sha Ciph.sealR Ciph.openR
set_option maxRecDepth 20000 in
set_option maxHeartbeats 2000000 in
theorem law_CipherOpens (key : List UInt8) (hkey : key.length ≤ maxLen) (x : List UInt8) (hx : x.length ≤ maxLen) (w : World) (hk : KLaid w) :
    Calls Tryd.prog 4 #[.string ⟨key.toArray⟩, .string ⟨x.toArray⟩] w fun e w' => e = .returned (.bool true) ∧ Below w.heap.size w w' := by
  have HK := Lib.hid hk
  clear hk hkey hx
  cases hB : longB key [] x
  · obtain ⟨m1, -, m3⟩ := longB_false hB
    obtain ⟨L, E, hLE⟩ : ∃ L E, openR key x = (L, E) := ⟨_, _, rfl⟩
    have HS := Lib.hid hLE
    clear hLE
    have hLL : (L != L) = false := by rw [bne_eq_false_iff_eq]
    by_cases hE : E = 0
    · subst hE
      have HSO := Lib.hid (seal_opened key x L HS.out)
      obtain ⟨k1, k2⟩ := openR_long HS.out
      have k3 : (12 : Int) ≤ x.length := by omega
      have k4 : (x.take 12).length ≤ 12 := by rw [List.length_take]; omega
      have hXX : (x == x) = true := by rw [beq_iff_eq]
      go_enter Tryd.func4, Tryd.ntmps4
      go_wp2_with fail
      refine (long_any key [] x w).mono ?_; rintro e w0 ⟨rfl, rfl⟩
      rw [hB]
      go_wp2_with fail
      refine (copen_any key x (by omega) (by omega) w0 HK.out).mono ?_; rintro e w1 ⟨rfl, b1⟩
      rw [HS.out]
      unfold tup2
      have B1 := Lib.hid b1
      clear b1
      go_wp2_with fail
      refine (ropen_any key x (by omega) (by omega) w1).mono ?_; rintro e w2 ⟨rfl, b2⟩
      rw [HS.out]
      unfold tup2
      have B2 := Lib.hid (below_more B1.out b2 B1.out.size)
      clear b2
      go_wp2_with fail
      refine (cseal_any key (x.take 12) L (by omega) (by omega) (by omega) w2 (HK.out.below B2.out)).mono ?_; rintro e w3 ⟨rfl, b3⟩
      rw [HSO.out]
      unfold tup2
      have B3 := Lib.hid (below_more B2.out b3 B2.out.size)
      clear b3
      go_wp2_with fail
      refine (alive_any w3 (HK.out.below B3.out)).mono ?_; rintro e w4 ⟨rfl, b4⟩
      have B4 := Lib.hid (below_more B3.out b4 B3.out.size)
      clear b4
      go_wp2_with fail
      go_ret
      exact ⟨rfl, B4.out⟩
    · have e1 : ((E : Int) != 0) = true := by rw [bne_iff_ne]; omega
      have e2 : (E != 0) = true := by rw [bne_iff_ne]; omega
      go_enter Tryd.func4, Tryd.ntmps4
      go_wp2_with fail
      refine (long_any key [] x w).mono ?_; rintro e w0 ⟨rfl, rfl⟩
      rw [hB]
      go_wp2_with fail
      refine (copen_any key x (by omega) (by omega) w0 HK.out).mono ?_; rintro e w1 ⟨rfl, b1⟩
      rw [HS.out]
      unfold tup2
      have B1 := Lib.hid b1
      clear b1
      go_wp2_with fail
      refine (ropen_any key x (by omega) (by omega) w1).mono ?_; rintro e w2 ⟨rfl, b2⟩
      rw [HS.out]
      unfold tup2
      have B2 := Lib.hid (below_more B1.out b2 B1.out.size)
      clear b2
      go_wp2_with fail
      refine (alive_any w2 (HK.out.below B2.out)).mono ?_; rintro e w3 ⟨rfl, b3⟩
      have B3 := Lib.hid (below_more B2.out b3 B2.out.size)
      clear b3
      go_wp2_with fail
      go_ret
      exact ⟨rfl, B3.out⟩
  · go_enter Tryd.func4, Tryd.ntmps4
    go_wp2_with fail
    refine (long_any key [] x w).mono ?_; rintro e w0 ⟨rfl, rfl⟩
    rw [hB]
    go_wp2_with fail
    refine (alive_any w0 HK.out).mono ?_; rintro e w1 ⟨rfl, b1⟩
    go_wp2_with fail
    go_ret
    exact ⟨rfl, b1⟩
end Go.Proofs.YtjjdjdhkfmfchaaDoor

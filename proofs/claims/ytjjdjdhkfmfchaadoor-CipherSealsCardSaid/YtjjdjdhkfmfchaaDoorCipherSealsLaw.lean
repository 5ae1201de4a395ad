/- The walk of the law CipherSeals. -/
import Derived.Test.YtjjdjdhkfmfchaaDoorCiphAlive
namespace Go.Proofs.YtjjdjdhkfmfchaaDoor
set_option linter.unusedVariables false
set_option linter.unusedSimpArgs false
open Go.RowKit Sha Ciph
attribute [local irreducible] Sha.hmac Sha.sha Ciph.sealR Ciph.openR
attribute [local go_sem] ByteArray.mk_append_mk

set_option maxRecDepth 20000 in
set_option maxHeartbeats 2000000 in
theorem law_CipherSeals (key : List UInt8) (hkey : key.length ≤ maxLen) (nonce : List UInt8) (hnonce : nonce.length ≤ maxLen) (s : List UInt8) (hs : s.length ≤ maxLen) (w : World) (hk : KLaid w) :
    Calls Tryd.prog 3 #[.string ⟨key.toArray⟩, .string ⟨nonce.toArray⟩, .string ⟨s.toArray⟩] w fun e w' => e = .returned (.bool true) ∧ Below w.heap.size w w' := by
  have HK := Lib.hid hk
  clear hk hkey hnonce hs
  cases hB : longB key nonce s
  · obtain ⟨m1, m2, m3⟩ := longB_false hB
    obtain ⟨L, E, hLE⟩ : ∃ L E, sealR key nonce s = (L, E) := ⟨_, _, rfl⟩
    have HS := Lib.hid hLE
    clear hLE
    go_enter Tryd.func3, Tryd.ntmps3
    go_wp2_with fail
    refine (long_any key nonce s w).mono ?_; rintro e w0 ⟨rfl, rfl⟩
    rw [hB]
    go_wp2_with fail
    refine (cseal_any key nonce s (by omega) (by omega) (by omega) w0 HK.out).mono ?_; rintro e w1 ⟨rfl, b1⟩
    rw [HS.out]
    unfold tup2
    have B1 := Lib.hid b1
    clear b1
    go_wp2_with fail
    refine (rseal_any key nonce s (by omega) (by omega) (by omega) w1).mono ?_; rintro e w2 ⟨rfl, b2⟩
    rw [HS.out]
    unfold tup2
    have B2 := Lib.hid (below_more B1.out b2 B1.out.size)
    clear b2
    have hLL : (L == L) = true := by rw [beq_iff_eq]
    go_wp2_with fail
    refine (alive_any w2 (HK.out.below B2.out)).mono ?_; rintro e w3 ⟨rfl, b3⟩
    have B3 := Lib.hid (below_more B2.out b3 B2.out.size)
    clear b3
    go_wp2_with fail
    go_ret
    exact ⟨rfl, B3.out⟩
  · go_enter Tryd.func3, Tryd.ntmps3
    go_wp2_with fail
    refine (long_any key nonce s w).mono ?_; rintro e w0 ⟨rfl, rfl⟩
    rw [hB]
    go_wp2_with fail
    refine (alive_any w0 HK.out).mono ?_; rintro e w1 ⟨rfl, b1⟩
    go_wp2_with fail
    go_ret
    exact ⟨rfl, b1⟩
end Go.Proofs.YtjjdjdhkfmfchaaDoor

/- The walks of the statements' own long and alive (cipher): the chapter's examples. -/
import Derived.Test.YtjjdjdhkfmfchaaDoorCiphW3
import Derived.Test.YtjjdjdhkfmfchaaDoorMakeB
namespace Go.Proofs.YtjjdjdhkfmfchaaDoor
set_option linter.unusedVariables false
set_option linter.unusedSimpArgs false
open Go.RowKit Sha Ciph

/-- more than a statement seals. -/
def longB (key nonce s : List UInt8) : Bool := decide ((1024 : Int) < (key.length : Int)) || decide ((1024 : Int) < (nonce.length : Int)) || decide ((4096 : Int) < (s.length : Int))
theorem longB_false {key nonce s : List UInt8} (h : longB key nonce s = false) : key.length ≤ 1024 ∧ nonce.length ≤ 1024 ∧ s.length ≤ 4096 := by
  unfold longB at h
  simp only [Bool.or_eq_false_iff, decide_eq_false_iff_not] at h
  omega

set_option maxRecDepth 20000 in
theorem long_any (key nonce s : List UInt8) (w : World) :
    Calls Tryd.prog 7 #[.string ⟨key.toArray⟩, .string ⟨nonce.toArray⟩, .string ⟨s.toArray⟩] w fun e w' => e = .returned (.bool (longB key nonce s)) ∧ w' = w := by
  have key0 : ∀ (A B C : Bool), A = decide ((1024 : Int) < (key.length : Int)) → B = decide ((1024 : Int) < (nonce.length : Int)) → C = decide ((4096 : Int) < (s.length : Int)) →
      Calls Tryd.prog 7 #[.string ⟨key.toArray⟩, .string ⟨nonce.toArray⟩, .string ⟨s.toArray⟩] w fun e w' => e = .returned (.bool (A || B || C)) ∧ w' = w := by
    intro A B C hA hB hC
    cases A <;> cases B <;> cases C
    all_goals (
      replace hA := hA.symm
      replace hB := hB.symm
      replace hC := hC.symm
      go_enter Tryd.func7, Tryd.ntmps7
      go_wp2_with fail
      go_ret
      exact ⟨rfl, rfl⟩)
  exact key0 _ _ _ rfl rfl rfl

def twelveB : List UInt8 := [116, 119, 101, 108, 118, 101, 32, 98, 121, 116, 101, 115]
theorem seal_twelve : ∃ L : List UInt8, sealR [107] twelveB [] = (L, 0) ∧ L.length = 44 := by
  refine ⟨sealed [107] twelveB [], ?_, ?_⟩
  · unfold sealR
    rw [if_neg (by decide), if_neg (by decide)]
  · rw [sealed_length]; rfl
theorem open_43 : openR [107] (zrow 43) = ([], 6) := by
  unfold openR
  rw [if_pos (by rw [zrow_length]; omega)]
set_option maxRecDepth 100000 in
theorem tag_zeros : tagOf [107] ((zrow 44).take ((zrow 44).length - 32)) ≠ (zrow 44).drop ((zrow 44).length - 32) := by decide +kernel
theorem open_44 : openR [107] (zrow 44) = ([], 40) := by
  unfold openR
  rw [if_neg (by rw [zrow_length]; omega), if_neg (by rw [zrow_length]; omega), if_pos tag_zeros]

attribute [local irreducible] Sha.hmac Sha.sha Ciph.sealR Ciph.openR
set_option maxRecDepth 20000 in
set_option maxHeartbeats 1000000 in
theorem alive_any (w : World) (hk : KLaid w) :
    Calls Tryd.prog 8 #[] w fun e w' => e = .returned (.bool true) ∧ Below w.heap.size w w' := by
  have HK := Lib.hid hk
  clear hk
  obtain ⟨L, hs0, hL⟩ := seal_twelve
  have hl : (L.length : Int) = 44 := by rw [hL]; rfl
  have HS := Lib.hid hs0
  clear hs0
  have hz1 := zrow_length 43
  have hz2 := zrow_length 44
  have hmk1 : ∀ W : World, (Instr.makeSlice 31 (.int .i64 43) (.int .i64 43)).run Tryd.prog W = .ok (.slice (some ⟨W.heap.size, 0, none⟩) 43 43) (W.alloc (.cells (brow (zrow 43)) 5)) := run_make_bytes 43 (by omega)
  have hcv1 := conv_zeros 43
  have hmk2 : ∀ W : World, (Instr.makeSlice 31 (.int .i64 44) (.int .i64 44)).run Tryd.prog W = .ok (.slice (some ⟨W.heap.size, 0, none⟩) 44 44) (W.alloc (.cells (brow (zrow 44)) 5)) := run_make_bytes 44 (by omega)
  have hcv2 := conv_zeros 44
  go_enter Tryd.func8, Tryd.ntmps8
  go_wp2_with fail
  refine (cseal_any [107] twelveB [] (by decide) (by decide) (by decide) w HK.out).mono ?_; rintro e w1 ⟨rfl, b1⟩
  rw [HS.out]
  unfold tup2
  have B1 := Lib.hid b1
  clear b1
  go_wp2_with fail
  have B2 : Hid (Below w.heap.size w (w1.alloc (.cells (brow (zrow 43)) 5))) := B1.out.alloc B1.out.size _
  refine (copen_any [107] (zrow 43) (by decide) (by rw [zrow_length]; omega) _ (HK.out.below B2.out)).mono ?_; rintro e w3 ⟨rfl, b3⟩
  rw [open_43]
  unfold tup2
  have B3 := Lib.hid (below_more B2.out b3 B2.out.size)
  clear b3
  go_wp2_with fail
  have B4 : Hid (Below w.heap.size w (w3.alloc (.cells (brow (zrow 44)) 5))) := B3.out.alloc B3.out.size _
  refine (copen_any [107] (zrow 44) (by decide) (by rw [zrow_length]; omega) _ (HK.out.below B4.out)).mono ?_; rintro e w5 ⟨rfl, b5⟩
  rw [open_44]
  unfold tup2
  have B5 := Lib.hid (below_more B4.out b5 B4.out.size)
  clear b5
  go_wp2_with fail
  go_ret
  exact ⟨rfl, B5.out⟩
end Go.Proofs.YtjjdjdhkfmfchaaDoor

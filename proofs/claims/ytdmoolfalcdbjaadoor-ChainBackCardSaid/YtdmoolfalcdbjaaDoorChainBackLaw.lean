/- The walk of the law ChainBack. -/
import Derived.Test.YtdmoolfalcdbjaaDoorChainScansLaw
import Derived.Test.YtdmoolfalcdbjaaDoorScanBack
namespace Go.Proofs.YtdmoolfalcdbjaaDoor
set_option linter.unusedVariables false
set_option linter.unusedSimpArgs false
open Go.RowKit Sha Chain
attribute [local go_sem] ByteArray.extract_mk

set_option maxRecDepth 20000 in
set_option maxHeartbeats 4000000 in
theorem law_ChainBack (s : List UInt8) (hs0 : s.length ≤ maxLen) (w : World) (hk : KLaid w) :
    Calls Tryd.prog 7 #[.string ⟨s.toArray⟩] w fun e w' => e = .returned (.bool true) ∧ Below w.heap.size w w' := by
  unfold maxLen at hs0
  have HK := Lib.hid hk
  have HA := Lib.hid fun (W : World) (b : Below w.heap.size w W) => alive_any W (HK.out.below b)
  clear hk
  by_cases h1 : 16384 < s.length
  · have h1i : (16384 : Int) < s.length := by omega
    go_enter Tryd.func7, Tryd.ntmps7
    go_wp2_with fail
    refine (HA.out w (Below.refl _ _)).mono ?_; rintro e w1 ⟨rfl, b1⟩
    go_wp2_with fail
    go_ret
    exact ⟨rfl, b1⟩
  · have h1i : decide ((16384 : Int) < s.length) = false := by rw [decide_eq_false_iff_not]; omega
    have h1n : ¬ (16384 : Int) < s.length := by omega
    obtain ⟨rl, m, p, hsc⟩ := scan_three s
    obtain ⟨y1, y2, y3, y4, y5⟩ := scan_frames hsc
    have hall : rl.all fits = true := by
      unfold chk at y3
      split at y3
      · assumption
      · cases y3
    have hts := total_small rl hall
    have HFB : Hid (framesR rl = (s.take p, m, 0)) := by show _ = _; unfold framesR; rw [if_pos y3, y1, y2]
    have HS2 : Hid (scanR (s.take p) = (rl, m, p)) := scan_again hsc
    have hp : p ≤ s.length := y4
    have HTT : Hid (total rl + 41 * rl.length < 1000000000) := by show _ < _; omega
    clear y1 y2 y3 y5 hts hall
    have HSN := Lib.hid fun (W : World) (b : Below w.heap.size w W) => scan_at (by omega) hsc W (HK.out.below b)
    have HSA := Lib.hid fun (W : World) (b : Below w.heap.size w W) => scan_at (s := s.take p) (by rw [List.length_take]; omega) HS2.out W (HK.out.below b)
    have q1 : decide ((p : Int) < 0) = false := by rw [decide_eq_false_iff_not]; omega
    have q1n : ¬ (p : Int) < 0 := by omega
    have q2 : decide ((s.length : Int) < p) = false := by rw [decide_eq_false_iff_not]; omega
    have q2n : ¬ (s.length : Int) < p := by omega
    have q3 : (p : Int) ≤ s.length := by omega
    have q4 : List.take (p - 0) (List.drop 0 s) = s.take p := by simp
    have q5 : List.take p s = s.take p := rfl
    clear h1 hsc
    obtain ⟨f, hf⟩ : ∃ f, f = s.take p := ⟨_, rfl⟩
    rw [← hf] at HFB HSA
    have hf' := hf.symm
    have hff : (f == f) = true := by simp
    have hffn : (f != f) = false := by simp
    have hmm : (m == m) = true := by simp
    have hmmn : (m != m) = false := by simp
    clear hf q4 q5
    go_enter Tryd.func7, Tryd.ntmps7
    go_wp2_with fail
    refine (HSN.out w (Below.refl _ _)).mono ?_; rintro e w1 ⟨lv, rfl, hl, b1⟩
    have B1 := Lib.hid b1
    have HL1 := Lib.hid hl
    clear b1 hl
    go_wp2_with fail
    refine (frames_at w1 HL1.out (HK.out.below B1.out) HTT.out HFB.out).mono ?_; rintro e w2 ⟨rfl, b2⟩
    have B2 := Lib.hid (below_more B1.out b2 B1.out.size)
    have HL2 := Lib.hid (HL1.out.later b2)
    clear b2
    go_wp2_with fail
    refine (HSA.out w2 B2.out).mono ?_; rintro e w3 ⟨lu, rfl, hu, b3⟩
    have B3 := Lib.hid (below_more B2.out b3 B2.out.size)
    have HL3 := Lib.hid (HL2.out.later b3)
    have HU3 := Lib.hid hu
    clear b3 hu
    go_wp2_with fail
    refine (same_same _ _ rl w3 HL3.out HU3.out).mono ?_; rintro e w4 ⟨rfl, b4⟩
    have B4 := Lib.hid (below_more B3.out b4 B3.out.size)
    clear b4
    go_wp2_with fail
    refine (HA.out w4 B4.out).mono ?_; rintro e w6 ⟨rfl, b6⟩
    go_wp2_with fail
    go_ret
    exact ⟨rfl, below_more B4.out b6 B4.out.size⟩
end Go.Proofs.YtdmoolfalcdbjaaDoor

/- The walk of the law ChainFrames. -/
import Derived.Test.YtdmoolfalcdbjaaDoorChainW4
namespace Go.Proofs.YtdmoolfalcdbjaaDoor
set_option linter.unusedVariables false
set_option linter.unusedSimpArgs false
open Go.RowKit Sha Chain
attribute [local go_sem] ByteArray.mk_append_mk

theorem cnext_at {f r p q : List UInt8} {n : Nat} (hf : f.length < 1000000000) (hr : r.length < 1000000000) (w : World) (hkl : KLaid w) (h : frameR f r = (p, q, n)) :
    Calls Tryd.prog 17 #[.string ⟨f.toArray⟩, .string ⟨r.toArray⟩] w fun e w' => e = .returned (.tuple #[.string ⟨q.toArray⟩, .int .i64 n]) ∧ Below w.heap.size w w' := by
  have := cnext_any f r hf hr w hkl
  rw [h] at this
  exact this

set_option maxRecDepth 20000 in
set_option maxHeartbeats 4000000 in
theorem law_ChainFrames (w : World) (f : List UInt8) (hf0 : f.length ≤ maxLen) (r : List UInt8) (hr0 : r.length ≤ maxLen) (v : Value) (ls : List (List UInt8)) (hv : IsStrs w v ls) (hk : KLaid w) :
    Calls Tryd.prog 6 #[.string ⟨f.toArray⟩, .string ⟨r.toArray⟩, v] w fun e w' => e = .returned (.bool true) ∧ Below w.heap.size w w' := by
  have HK := Lib.hid hk
  have HV := Lib.hid hv
  have HA := Lib.hid fun (W : World) (b : Below w.heap.size w W) => alive_any W (HK.out.below b)
  have HLG := Lib.hid (long_any v ls w hv)
  clear hk hv hf0 hr0
  by_cases h1 : 1024 < f.length
  · have h1i : decide ((1024 : Int) < (f.length : Int)) = true := by rw [decide_eq_true_iff]; omega
    go_enter Tryd.func6, Tryd.ntmps6
    go_wp2_with fail
    refine (HA.out w (Below.refl _ _)).mono ?_; rintro e w1 ⟨rfl, b1⟩
    go_wp2_with fail
    go_ret
    exact ⟨rfl, b1⟩
  · have h1i : decide ((1024 : Int) < (f.length : Int)) = false := by rw [decide_eq_false_iff_not]; omega
    by_cases h2 : 16384 < r.length
    · have h2i : decide ((16384 : Int) < (r.length : Int)) = true := by rw [decide_eq_true_iff]; omega
      go_enter Tryd.func6, Tryd.ntmps6
      go_wp2_with fail
      refine (HA.out w (Below.refl _ _)).mono ?_; rintro e w1 ⟨rfl, b1⟩
      go_wp2_with fail
      go_ret
      exact ⟨rfl, b1⟩
    · have h2i : decide ((16384 : Int) < (r.length : Int)) = false := by rw [decide_eq_false_iff_not]; omega
      cases hlg : lng ls with
      | true =>
        rw [hlg] at HLG
        go_enter Tryd.func6, Tryd.ntmps6
        go_wp2_with fail
        refine HLG.out.mono ?_; rintro e w1 ⟨rfl, rfl⟩
        go_wp2_with fail
        refine (HA.out w (Below.refl _ _)).mono ?_; rintro e w1 ⟨rfl, b1⟩
        go_wp2_with fail
        go_ret
        exact ⟨rfl, b1⟩
      | false =>
        rw [hlg] at HLG
        obtain ⟨t1, t2, t3⟩ := lng_false hlg
        have HBIG := Lib.hid (fun x hx => Nat.lt_of_le_of_lt (t3 x hx) (by omega : 16384 < 1000000000))
        have fl : f.length ≤ 1024 := by omega
        have rl : r.length ≤ 16384 := by omega
        clear h1 h2 hlg t3
        -- the second half: the frames of the records
        have HALL : Hid (∃ p q n, framesR ls = (p, q, n) ∧ (n = 0 ∨ (n = 5 ∧ p = [] ∧ q = []))) := by
          show _
          rcases chk_cases ls with hc | hc
          · exact ⟨_, _, 0, by unfold framesR; rw [if_pos hc], .inl rfl⟩
          · exact ⟨[], [], 5, by unfold framesR; rw [if_neg (by omega)], .inr ⟨rfl, rfl, rfl⟩⟩
        obtain ⟨p, q, n, hF, hn⟩ := HALL.out
        have HF := Lib.hid hF
        have HN := Lib.hid hn
        clear hF hn HALL
        have HTB : Hid (total ls + 41 * ls.length < 1000000000) := by show _ < _; omega
        by_cases h32 : f.length = 32
        · by_cases h8 : 8192 < r.length
          · have HFR : Hid (frameR f r = ([], [], 5)) := by show _ = _; unfold frameR; rw [if_neg (by omega), if_pos h8]
            have e1 : ((f.length : Int) != 32) = false := by rw [bne_eq_false_iff_eq]; omega
            have e2 : (f.length != 32) = false := by rw [bne_eq_false_iff_eq]; exact h32
            have e3 : (8192 : Int) < r.length := by omega
            clear h32 h8
            go_enter Tryd.func6, Tryd.ntmps6
            go_wp2_with fail
            refine HLG.out.mono ?_; rintro e w1 ⟨rfl, rfl⟩
            go_wp2_with fail
            refine (frame_at (by omega) (by omega) w HK.out HFR.out).mono ?_; rintro e w2 ⟨rfl, b2⟩
            have B2 := Lib.hid b2
            clear b2
            go_wp2_with fail
            refine (cnext_at (by omega) (by omega) w2 (HK.out.below B2.out) HFR.out).mono ?_; rintro e w3 ⟨rfl, b3⟩
            have B3 := Lib.hid (below_more B2.out b3 B2.out.size)
            clear b3
            go_wp2_with (refine wpList_append_copy (o := ⟨some 103, _, _, _, _, _⟩) rfl _ (.tmp 102) rfl rfl v rfl ls (HV.out.later B3.out) (by omega) ?_; intro v9 w9 hv9 b9; have HV9 := Lib.hid hv9; have B9 := Lib.hid (below_more B3.out b9 B3.out.size); clear hv9 b9)
            refine (frames_at w9 HV9.out (HK.out.below B9.out) HTB.out HF.out).mono ?_; rintro e w10 ⟨rfl, b10⟩
            have B10 := Lib.hid (below_more B9.out b10 B9.out.size)
            clear b10
            go_wp2_with fail
            refine (rframes_at w10 (HV.out.later B10.out) HTB.out HBIG.out HF.out).mono ?_; rintro e w11 ⟨rfl, b11⟩
            have B11 := Lib.hid (below_more B10.out b11 B10.out.size)
            clear b11
            rcases HN.out with rfl | ⟨rfl, rfl, rfl⟩
            · have g1 : (p == p) = true := by rw [beq_iff_eq]
              have g2 : (q == q) = true := by rw [beq_iff_eq]
              go_wp2_with fail
              refine (HA.out w11 B11.out).mono ?_; rintro e w12 ⟨rfl, b12⟩
              go_wp2_with fail
              go_ret
              exact ⟨rfl, below_more B11.out b12 B11.out.size⟩
            · go_wp2_with fail
              refine (HA.out w11 B11.out).mono ?_; rintro e w12 ⟨rfl, b12⟩
              go_wp2_with fail
              go_ret
              exact ⟨rfl, below_more B11.out b12 B11.out.size⟩
          · have HFR : Hid (frameR f r = (frameL f r, nextL f r, 0)) := by show _ = _; unfold frameR; rw [if_neg (by omega), if_neg h8]
            have HRF := Lib.hid fun W => rframe_any f r (by omega) (by omega) W
            have HRN := Lib.hid fun W => rnext_any f r (by omega) (by omega) W
            have e1 : ((f.length : Int) != 32) = false := by rw [bne_eq_false_iff_eq]; omega
            have e2 : (f.length != 32) = false := by rw [bne_eq_false_iff_eq]; exact h32
            have e3 : (r.length : Int) ≤ 8192 := by omega
            have e4 : decide ((8192 : Int) < (r.length : Int)) = false := by rw [decide_eq_false_iff_not]; omega
            generalize frameL f r = x at *
            generalize nextL f r = y at *
            have e5 : (x != x) = false := by rw [bne_eq_false_iff_eq]
            have e6 : (y != y) = false := by rw [bne_eq_false_iff_eq]
            clear h32 h8
            go_enter Tryd.func6, Tryd.ntmps6
            go_wp2_with fail
            refine HLG.out.mono ?_; rintro e w1 ⟨rfl, rfl⟩
            go_wp2_with fail
            refine (frame_at (by omega) (by omega) w HK.out HFR.out).mono ?_; rintro e w2 ⟨rfl, b2⟩
            have B2 := Lib.hid b2
            clear b2
            go_wp2_with fail
            refine (cnext_at (by omega) (by omega) w2 (HK.out.below B2.out) HFR.out).mono ?_; rintro e w3 ⟨rfl, b3⟩
            have B3 := Lib.hid (below_more B2.out b3 B2.out.size)
            clear b3
            go_wp2_with fail
            refine (HRF.out w3).mono ?_; rintro e w4 ⟨rfl, b4⟩
            replace B3 := Lib.hid (below_more B3.out b4 B3.out.size)
            clear b4
            go_wp2_with fail
            refine (HRN.out w4).mono ?_; rintro e w5 ⟨rfl, b5⟩
            replace B3 := Lib.hid (below_more B3.out b5 B3.out.size)
            clear b5
            go_wp2_with (refine wpList_append_copy (o := ⟨some 103, _, _, _, _, _⟩) rfl _ (.tmp 102) rfl rfl v rfl ls (HV.out.later B3.out) (by omega) ?_; intro v9 w9 hv9 b9; have HV9 := Lib.hid hv9; have B9 := Lib.hid (below_more B3.out b9 B3.out.size); clear hv9 b9)
            refine (frames_at w9 HV9.out (HK.out.below B9.out) HTB.out HF.out).mono ?_; rintro e w10 ⟨rfl, b10⟩
            have B10 := Lib.hid (below_more B9.out b10 B9.out.size)
            clear b10
            go_wp2_with fail
            refine (rframes_at w10 (HV.out.later B10.out) HTB.out HBIG.out HF.out).mono ?_; rintro e w11 ⟨rfl, b11⟩
            have B11 := Lib.hid (below_more B10.out b11 B10.out.size)
            clear b11
            rcases HN.out with rfl | ⟨rfl, rfl, rfl⟩
            · have g1 : (p == p) = true := by rw [beq_iff_eq]
              have g2 : (q == q) = true := by rw [beq_iff_eq]
              go_wp2_with fail
              refine (HA.out w11 B11.out).mono ?_; rintro e w12 ⟨rfl, b12⟩
              go_wp2_with fail
              go_ret
              exact ⟨rfl, below_more B11.out b12 B11.out.size⟩
            · go_wp2_with fail
              refine (HA.out w11 B11.out).mono ?_; rintro e w12 ⟨rfl, b12⟩
              go_wp2_with fail
              go_ret
              exact ⟨rfl, below_more B11.out b12 B11.out.size⟩
        · have HFR : Hid (frameR f r = ([], [], 2)) := by show _ = _; unfold frameR; rw [if_pos h32]
          have e1 : ((f.length : Int) != 32) = true := by rw [bne_iff_ne]; omega
          have e2 : (f.length != 32) = true := by rw [bne_iff_ne]; exact h32
          clear h32
          go_enter Tryd.func6, Tryd.ntmps6
          go_wp2_with fail
          refine HLG.out.mono ?_; rintro e w1 ⟨rfl, rfl⟩
          go_wp2_with fail
          refine (frame_at (by omega) (by omega) w HK.out HFR.out).mono ?_; rintro e w2 ⟨rfl, b2⟩
          have B2 := Lib.hid b2
          clear b2
          go_wp2_with fail
          refine (cnext_at (by omega) (by omega) w2 (HK.out.below B2.out) HFR.out).mono ?_; rintro e w3 ⟨rfl, b3⟩
          have B3 := Lib.hid (below_more B2.out b3 B2.out.size)
          clear b3
          go_wp2_with (refine wpList_append_copy (o := ⟨some 103, _, _, _, _, _⟩) rfl _ (.tmp 102) rfl rfl v rfl ls (HV.out.later B3.out) (by omega) ?_; intro v9 w9 hv9 b9; have HV9 := Lib.hid hv9; have B9 := Lib.hid (below_more B3.out b9 B3.out.size); clear hv9 b9)
          refine (frames_at w9 HV9.out (HK.out.below B9.out) HTB.out HF.out).mono ?_; rintro e w10 ⟨rfl, b10⟩
          have B10 := Lib.hid (below_more B9.out b10 B9.out.size)
          clear b10
          go_wp2_with fail
          refine (rframes_at w10 (HV.out.later B10.out) HTB.out HBIG.out HF.out).mono ?_; rintro e w11 ⟨rfl, b11⟩
          have B11 := Lib.hid (below_more B10.out b11 B10.out.size)
          clear b11
          rcases HN.out with rfl | ⟨rfl, rfl, rfl⟩
          · have g1 : (p == p) = true := by rw [beq_iff_eq]
            have g2 : (q == q) = true := by rw [beq_iff_eq]
            go_wp2_with fail
            refine (HA.out w11 B11.out).mono ?_; rintro e w12 ⟨rfl, b12⟩
            go_wp2_with fail
            go_ret
            exact ⟨rfl, below_more B11.out b12 B11.out.size⟩
          · go_wp2_with fail
            refine (HA.out w11 B11.out).mono ?_; rintro e w12 ⟨rfl, b12⟩
            go_wp2_with fail
            go_ret
            exact ⟨rfl, below_more B11.out b12 B11.out.size⟩
end Go.Proofs.YtdmoolfalcdbjaaDoor

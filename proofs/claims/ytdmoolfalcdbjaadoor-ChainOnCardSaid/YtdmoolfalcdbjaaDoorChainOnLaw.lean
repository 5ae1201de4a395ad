/- The walk of the law ChainOn. -/
import Derived.Test.YtdmoolfalcdbjaaDoorChainW4
import Derived.Test.YtdmoolfalcdbjaaDoorOwnS
namespace Go.Proofs.YtdmoolfalcdbjaaDoor
set_option linter.unusedVariables false
set_option linter.unusedSimpArgs false
open Go.RowKit Sha Chain
attribute [local go_sem] ByteArray.mk_append_mk

theorem chk_append (a b : List (List UInt8)) (ha : chk a = 0) (hb : b.all fits = true) : chk (a ++ b) = 0 := by
  have h1 : a.all fits = true := by
    unfold chk at ha
    split at ha
    · assumption
    · cases ha
  unfold chk
  rw [if_pos]
  rw [List.all_append, h1, hb]
  rfl

set_option maxRecDepth 20000 in
set_option maxHeartbeats 4000000 in
theorem law_ChainOn (w : World) (v : Value) (ls : List (List UInt8)) (hv : IsStrs w v ls) (y : Value) (ms : List (List UInt8)) (hy : IsStrs w y ms) (hk : KLaid w) :
    Calls Tryd.prog 5 #[v, y] w fun e w' => e = .returned (.bool true) ∧ Below w.heap.size w w' := by
  have HK := Lib.hid hk
  have HV := Lib.hid hv
  have HY := Lib.hid hy
  have HA := Lib.hid fun (W : World) (b : Below w.heap.size w W) => alive_any W (HK.out.below b)
  have HLG := Lib.hid (long_any v ls w hv)
  have HLM := Lib.hid (long_any y ms w hy)
  obtain ⟨a, cap, rfl, hn, hs⟩ := hy.at
  have HS := Lib.hid hs
  unfold maxLen at hn
  clear hk hv hy hs
  cases hlg : lng ls with
  | true =>
    rw [hlg] at HLG
    go_enter Tryd.func5, Tryd.ntmps5
    go_wp2_with fail
    refine HLG.out.mono ?_; rintro e w1 ⟨rfl, rfl⟩
    go_wp2_with fail
    refine (HA.out w (Below.refl _ _)).mono ?_; rintro e w1 ⟨rfl, b1⟩
    go_wp2_with fail
    go_ret
    exact ⟨rfl, b1⟩
  | false =>
    rw [hlg] at HLG
    cases hlm : lng ms with
    | true =>
      rw [hlm] at HLM
      go_enter Tryd.func5, Tryd.ntmps5
      go_wp2_with fail
      refine HLG.out.mono ?_; rintro e w1 ⟨rfl, rfl⟩
      go_wp2_with fail
      refine HLM.out.mono ?_; rintro e w1 ⟨rfl, rfl⟩
      go_wp2_with fail
      refine (HA.out w (Below.refl _ _)).mono ?_; rintro e w1 ⟨rfl, b1⟩
      go_wp2_with fail
      go_ret
      exact ⟨rfl, b1⟩
    | false =>
      rw [hlm] at HLM
      obtain ⟨t1, t2, _⟩ := lng_false hlg
      obtain ⟨t4, t5, t6⟩ := lng_false hlm
      have HBIG := Lib.hid (fun x hx => Nat.lt_of_le_of_lt (t6 x hx) (by omega : 16384 < 1000000000))
      clear hlg hlm t6
      have HTB : Hid (total ls + 41 * ls.length < 1000000000) := by show _ < _; omega
      rcases chk_cases ls with hc0 | hc5
      · have HF : Hid (framesR ls = (framesL zlink ls, headL zlink ls, 0)) := by show _ = _; unfold framesR; rw [if_pos hc0]
        have HC0 := Lib.hid hc0
        have hz : (0 : Nat) = 0 := rfl
        clear hc0 hz
        go_enter Tryd.func5, Tryd.ntmps5
        go_wp2_with fail
        refine HLG.out.mono ?_; rintro e w1 ⟨rfl, rfl⟩
        go_wp2_with fail
        refine HLM.out.mono ?_; rintro e w1 ⟨rfl, rfl⟩
        go_wp2_with (refine wpList_append_copy (o := ⟨some 24, _, _, _, _, _⟩) rfl _ (.tmp 23) rfl rfl v rfl ls HV.out (by omega) ?_; intro v9 w9 hv9 b9; have HV9 := Lib.hid hv9; have B9 := Lib.hid b9; clear hv9 b9)
        refine (frames_at w9 HV9.out (HK.out.below B9.out) HTB.out HF.out).mono ?_; rintro e w10 ⟨rfl, b10⟩
        have B10 := Lib.hid (below_more B9.out b10 B9.out.size)
        clear b10
        go_wp2_with fail
        go_loopw [5, 6, 8] (fun x z i wr => ∃ k : Nat, k ≤ ms.length ∧ i = .int .i64 k ∧ Hid ((ms.take k).all fits = true) ∧ ∃ t h : List UInt8, x = .string ⟨t.toArray⟩ ∧ z = .string ⟨h.toArray⟩ ∧ Hid (t = framesL zlink (ls ++ ms.take k)) ∧ Hid (h = headL zlink (ls ++ ms.take k)) ∧ Hid (Below w.heap.size w wr)) (fun _ _ i _ => ms.length - (intOf i).toNat)
        case atStart => exact ⟨0, by omega, rfl, rfl, framesL zlink ls, headL zlink ls, rfl, rfl, Lib.hid (by rw [List.take_zero, List.append_nil]), Lib.hid (by rw [List.take_zero, List.append_nil]), B10⟩
        case round =>
          obtain ⟨k, hk, rfl, HQ, t, h, rfl, rfl, HT, HH, HB⟩ := hrel
          by_cases hlt : k < ms.length
          · obtain ⟨b, off, rfl, hbl, hc⟩ := HS.out k hlt
            have hki : (k : Int) < ms.length := by omega
            have hcw : wr.cell? ⟨b, off + k, none⟩ = some (.string ⟨(ms[k]).toArray⟩) := (HB.out.cell (p := ⟨b, off + k, none⟩) hbl).trans hc
            have hrb := HBIG.out _ (List.getElem_mem hlt)
            have HHL : Hid (h.length = 32) := by rw [HH.out]; exact headL_length _ _ zlink_length
            clear hc hbl
            by_cases h8 : 8192 < (ms[k]).length
            · have HFR : Hid (frameR h ms[k] = ([], [], 5)) := by show _ = _; unfold frameR; rw [if_neg (by rw [HHL.out]; omega), if_pos h8]
              generalize ms[k] = r at *
              go_wp2_with fail
              refine (frame_at (by rw [HHL.out]; omega) hrb wr (HK.out.below HB.out) HFR.out).mono ?_; rintro e w5 ⟨rfl, b5⟩
              have B5 := Lib.hid (below_more HB.out b5 HB.out.size)
              clear b5
              go_wp2_with fail
              refine (HA.out w5 B5.out).mono ?_; rintro e w6 ⟨rfl, b6⟩
              go_wp2_with fail
              go_ret
              exact ⟨rfl, below_more B5.out b6 B5.out.size⟩
            · have h8' : (ms[k]).length ≤ 8192 := by omega
              have HQ2 := Lib.hid (all_next ms k hlt HQ.out h8')
              have HTK : Hid (ls ++ ms.take (k + 1) = (ls ++ ms.take k) ++ [ms[k]]) := by
                show _ = _
                rw [List.take_succ_eq_append_getElem hlt, List.append_assoc]
              have HT2 : Hid (framesL zlink (ls ++ ms.take (k + 1)) = t ++ frameL h ms[k]) := by
                show _ = _
                rw [HTK.out, framesL_append, ← HT.out, ← HH.out]
                simp only [framesL, List.append_nil]
              have HH2 : Hid (headL zlink (ls ++ ms.take (k + 1)) = nextL h ms[k]) := by
                show _ = _
                rw [HTK.out, headL_append, ← HH.out]
                rfl
              have hle := framesL_le (ls ++ ms.take k) zlink
              rw [total_append, List.length_append, List.length_take, ← HT.out] at hle
              have htt := total_take ms k
              have z1 : t.length ≤ 1000000000 := by omega
              have hfl := frameL_le h ms[k]
              clear hle htt
              generalize ms[k] = r at *
              have z2 : (frameL h r).length ≤ 10000 := by omega
              have HFR := Lib.hid (frameR_good HHL.out h8')
              clear hfl
              go_wp2_with fail
              refine (frame_at (by rw [HHL.out]; omega) (by omega) wr (HK.out.below HB.out) HFR.out).mono ?_; rintro e w5 ⟨rfl, b5⟩
              have B5 := Lib.hid (below_more HB.out b5 HB.out.size)
              clear b5
              go_wp2_with fail
              go_roundw
              case rel => exact ⟨k + 1, by omega, by go_num, HQ2, t ++ frameL h r, nextL h r, rfl, rfl, Lib.hid HT2.out.symm, Lib.hid HH2.out.symm, B5⟩
              case measure => simp [intOf]; omega
          · obtain rfl : k = ms.length := by omega
            rw [List.take_length] at HT HH HQ
            have HFE : Hid (framesR (ls ++ ms) = (t, h, 0)) := by
              show _ = _
              unfold framesR
              rw [if_pos (chk_append ls ms HC0.out HQ.out), ← HT.out, ← HH.out]
            have HTB2 : Hid (total (ls ++ ms) + 41 * (ls ++ ms).length < 1000000000) := by show _ < _; rw [total_append, List.length_append]; omega
            have HYS := HY.out
            have e1 : (t == t) = true := by rw [beq_iff_eq]
            have e2 : (h == h) = true := by rw [beq_iff_eq]
            have HYW := Lib.hid (HYS.later HB.out)
            clear HYS
            go_wp2_with (first
              | (refine wpList_append_strs (o := ⟨some 61, _, _, _, _, _⟩) rfl _ (.tmp 60) rfl wr.heap.size (Nat.le_refl _) (.slice none 0 0) v [] ls rfl (OwnS.nil wr _) rfl (HV.out.later HB.out) (by simp; omega) ?_; intro v2 w2 h2 s2 b2; have O2 := Lib.hid h2; have B2 := Lib.hid (b2 _ _ (Below.refl _ _) (Nat.le_refl _)); clear h2 s2 b2)
              | (refine wpList_append_strs (o := ⟨some 63, _, _, _, _, _⟩) rfl (.tmp 61) (.tmp 62) rfl wr.heap.size B2.out.size v2 (.slice a ms.length cap) ([] ++ ls) ms rfl O2.out rfl (HYW.out.later B2.out) (by simp; omega) ?_; intro v3 w3 h3 s3 b3; have O3 := Lib.hid h3; have B3 := Lib.hid (b3 _ _ B2.out (Nat.le_refl _)); clear h3 s3 b3))
            have B4 := Lib.hid (below_more HB.out B3.out HB.out.size)
            rw [List.nil_append] at O3
            refine (frames_at w3 O3.out.isStrs (HK.out.below B4.out) HTB2.out HFE.out).mono ?_; rintro e w5 ⟨rfl, b5⟩
            have B5 := Lib.hid (below_more B4.out b5 B4.out.size)
            clear b5
            go_wp2_with fail
            refine (HA.out w5 B5.out).mono ?_; rintro e w6 ⟨rfl, b6⟩
            go_wp2_with fail
            go_ret
            exact ⟨rfl, below_more B5.out b6 B5.out.size⟩
      · have HF : Hid (framesR ls = ([], [], 5)) := by show _ = _; unfold framesR; rw [if_neg (by omega)]
        clear hc5
        go_enter Tryd.func5, Tryd.ntmps5
        go_wp2_with fail
        refine HLG.out.mono ?_; rintro e w1 ⟨rfl, rfl⟩
        go_wp2_with fail
        refine HLM.out.mono ?_; rintro e w1 ⟨rfl, rfl⟩
        go_wp2_with (refine wpList_append_copy (o := ⟨some 24, _, _, _, _, _⟩) rfl _ (.tmp 23) rfl rfl v rfl ls HV.out (by omega) ?_; intro v9 w9 hv9 b9; have HV9 := Lib.hid hv9; have B9 := Lib.hid b9; clear hv9 b9)
        refine (frames_at w9 HV9.out (HK.out.below B9.out) HTB.out HF.out).mono ?_; rintro e w10 ⟨rfl, b10⟩
        have B10 := Lib.hid (below_more B9.out b10 B9.out.size)
        clear b10
        go_wp2_with fail
        refine (HA.out w10 B10.out).mono ?_; rintro e w6 ⟨rfl, b6⟩
        go_wp2_with fail
        go_ret
        exact ⟨rfl, below_more B10.out b6 B10.out.size⟩
end Go.Proofs.YtdmoolfalcdbjaaDoor

/- The walk of the law ShaParts. -/
import Derived.Test.YtdkcgjjofhhppaaDoorShaCopiesLaw
import Derived.Test.YtdkcgjjofhhppaaDoorStrs
import Derived.Test.YtdkcgjjofhhppaaDoorBools
namespace Go.Proofs.YtdkcgjjofhhppaaDoor
set_option linter.unusedVariables false
set_option linter.unusedSimpArgs false
open Go.RowKit Sha
attribute [local irreducible] Sha.sha Sha.hexs
attribute [local go_sem] ByteArray.mk_append_mk

/-- a row of texts as IsStrs tells it, one form for all. -/
theorem IsStrs.at {w : World} {v : Value} {ls : List (List UInt8)} (h : IsStrs w v ls) : ∃ a cap, v = .slice a ls.length cap ∧ ls.length ≤ maxLen ∧ ∀ i (hi : i < ls.length), ∃ b off, a = some ⟨b, off, none⟩ ∧ b < w.heap.size ∧ w.cell? ⟨b, off + i, none⟩ = some (.string ⟨(ls[i]).toArray⟩) := by
  have hl := h.length_le
  rcases h with ⟨rfl, a, cap, rfl, _⟩ | ⟨b, off, cap, rfl, _, _, _, hb, hc⟩
  · exact ⟨a, cap, rfl, hl, fun i hi => absurd hi (Nat.not_lt_zero i)⟩
  · exact ⟨_, cap, rfl, hl, fun i hi => ⟨b, off, rfl, hb, hc i hi⟩⟩
theorem flat_next (ls : List (List UInt8)) (k : Nat) (h : k < ls.length) : (ls.take (k + 1)).flatten = (ls.take k).flatten ++ ls[k] := by
  rw [List.take_succ_eq_append_getElem h, List.flatten_append, List.flatten_cons, List.flatten_nil, List.append_nil]

set_option maxRecDepth 20000 in
set_option maxHeartbeats 4000000 in
theorem law_ShaParts (w : World) (v : Value) (ls : List (List UInt8)) (hv : IsStrs w v ls) (q : Value) (m : Nat) (B : Nat → Bool) (hq : IsBools w q m B) (hk : KLaid w) :
    Calls Tryd.prog 5 #[v, q] w fun e w' => e = .returned (.bool true) ∧ Below w.heap.size w w' := by
  obtain ⟨a, cap, rfl, hn, hs⟩ := hv.at
  obtain ⟨c, cap2, rfl, hm, hB⟩ := hq
  have HK := Lib.hid hk
  have hkl := hk.lt
  have HG := Lib.hid (show w.heap.size ≠ 0 by omega)
  have HS := Lib.hid hs
  have HB := Lib.hid hB
  clear hk hv hkl hs hB
  unfold maxLen at hn hm
  by_cases hl : 100 < ls.length
  · go_enter Tryd.func5, Tryd.ntmps5
    go_wp2_with (go_at_call 7; refine (alive_any w HK.out).mono ?_; rintro e w1 ⟨rfl, b1⟩)
    go_ret
    exact ⟨rfl, b1⟩
  · have hl2 : ls.length ≤ 100 := by omega
    clear hl
    go_enter Tryd.func5, Tryd.ntmps5
    go_wp2_with fail
    refine (new_some w).mono ?_; rintro e w1 ⟨rfl, h1, b1, s1⟩; have H1 := Lib.hid h1; have B1 := Lib.hid b1; clear h1 b1 s1
    go_wp2_with fail
    refine (len_at w.heap.size [] 0 w1 H1.out rfl).mono ?_; rintro e w2 ⟨rfl, rfl⟩
    go_wp2_with fail
    go_loopw [6, 7] (fun x i wr => ∃ k : Nat, k ≤ ls.length ∧ i = .int .i64 k ∧ ∃ t : List UInt8, x = .string ⟨t.toArray⟩ ∧ Hid (t = (ls.take k).flatten) ∧ Hid (Holds wr w.heap.size t) ∧ Hid (t.length ≤ 12288) ∧ Hid (Below w.heap.size w wr)) (fun _ i _ => ls.length - (intOf i).toNat)
    case atStart => exact ⟨0, by omega, rfl, [], rfl, rfl, H1, Nat.zero_le _, B1⟩
    case round =>
      obtain ⟨k, hkn, rfl, t, rfl, HT, HH, HL, HW⟩ := hrel
      have HKW := Lib.hid (HK.out.below HW.out)
      by_cases hlt : k < ls.length
      · obtain ⟨b, off, rfl, hbl, hc⟩ := HS.out k hlt
        have HFT := Lib.hid (flat_next ls k hlt)
        have hcw : wr.cell? ⟨b, off + k, none⟩ = some (.string ⟨(ls[k]).toArray⟩) := (HW.out.cell (p := ⟨b, off + k, none⟩) hbl).trans hc
        clear hc
        have HBL := Lib.hid hbl
        clear hbl
        generalize ls[k] = x at *
        by_cases hA : 4096 < x.length
        · have hA2 : (4096 : Int) < x.length := by omega
          go_wp2_with (go_at_call 7; refine (alive_any wr HKW.out).mono ?_; rintro e w5 ⟨rfl, b5⟩)
          go_ret
          exact ⟨rfl, below_more HW.out b5 HW.out.size⟩
        · have hA2 : (x.length : Int) ≤ 4096 := by omega
          have hA3 : decide ((4096 : Int) < (x.length : Int)) = false := by rw [decide_eq_false_iff_not]; omega
          by_cases hT : 8192 < t.length
          · have hT2 : (8192 : Int) < t.length := by omega
            go_wp2_with (go_at_call 7; refine (alive_any wr HKW.out).mono ?_; rintro e w5 ⟨rfl, b5⟩)
            go_ret
            exact ⟨rfl, below_more HW.out b5 HW.out.size⟩
          · have hT2 : (t.length : Int) ≤ 8192 := by omega
            have hT3 : decide ((8192 : Int) < (t.length : Int)) = false := by rw [decide_eq_false_iff_not]; omega
            clear hA hT
            go_wp2_with fail
            refine (write_some w.heap.size t x wr HH.out HKW.out HG.out (by omega)).mono ?_; rintro e w2 ⟨rfl, h2, g2⟩
            have H2 := Lib.hid h2
            have B2 := Lib.hid (HW.out.grown g2 HW.out.size (fun k hk => Nat.le_of_eq (Option.some.inj hk)))
            have HBW := Lib.hid B2.out.size
            have hcw2 : w2.cell? ⟨b, off + k, none⟩ = some (.string ⟨x.toArray⟩) := by
              rw [← hcw, HW.out.cell (p := ⟨b, off + k, none⟩) HBL.out, B2.out.cell (p := ⟨b, off + k, none⟩) HBL.out]
            have HKW2 := Lib.hid (HK.out.below B2.out)
            clear h2 g2 hcw
            have e8 : ((t.length : Int) + x.length != (t.length : Int) + x.length) = false := by rw [bne_eq_false_iff_eq]
            by_cases hk : k < m
            · obtain ⟨b2, off2, rfl, hbl2, hc2⟩ := HB.out k hk
              have HBL2 := Lib.hid hbl2
              have hcw3 : w2.cell? ⟨b2, off2 + k, none⟩ = some (.bool (B k)) := (B2.out.cell (p := ⟨b2, off2 + k, none⟩) hbl2).trans hc2
              have hk1 : decide ((k : Int) < (m : Int)) = true := by rw [decide_eq_true_iff]; omega
              clear hc2 hbl2
              generalize B k = bk at *
              cases bk
              · go_wp2_with fail
                refine (len_at w.heap.size _ ((t.length : Int) + x.length) w2 H2.out (by simp)).mono ?_; rintro e w3 ⟨rfl, rfl⟩
                go_wp2_with fail
                go_roundw
                case rel => exact ⟨k + 1, by omega, by go_num, t ++ x, rfl, Lib.hid (by rw [HFT.out, HT.out]), H2, Lib.hid (by simp; omega), B2⟩
                case measure => simp [intOf]; omega
              · go_wp2_with fail
                refine (len_at w.heap.size _ ((t.length : Int) + x.length) w2 H2.out (by simp)).mono ?_; rintro e w3 ⟨rfl, rfl⟩
                go_wp2_with fail
                refine (sum_some w.heap.size (t ++ x) w2 H2.out HKW2.out (by simp; omega)).mono ?_; rintro e w3 ⟨rfl, b3⟩
                have H3 := Lib.hid (H2.out.below b3); have B3 := Lib.hid (below_more B2.out b3 B2.out.size); clear b3
                go_wp2_with fail
                refine (shaSum_any (t ++ x) w3 (HK.out.below B3.out) (by simp; omega)).mono ?_; rintro e w4 ⟨rfl, b4⟩
                have H4 := Lib.hid (H3.out.below b4); have B4 := Lib.hid (below_more B3.out b4 B3.out.size); clear b4
                go_wp2_with fail
                go_roundw
                case rel => exact ⟨k + 1, by omega, by go_num, t ++ x, rfl, Lib.hid (by rw [HFT.out, HT.out]), H4, Lib.hid (by simp; omega), B4⟩
                case measure => simp [intOf]; omega
            · have hk1 : decide ((k : Int) < (m : Int)) = false := by rw [decide_eq_false_iff_not]; omega
              have hk2 : decide (k < m) = false := by rw [decide_eq_false_iff_not]; omega
              go_wp2_with fail
              refine (len_at w.heap.size _ ((t.length : Int) + x.length) w2 H2.out (by simp)).mono ?_; rintro e w3 ⟨rfl, rfl⟩
              go_wp2_with fail
              go_roundw
              case rel => exact ⟨k + 1, by omega, by go_num, t ++ x, rfl, Lib.hid (by rw [HFT.out, HT.out]), H2, Lib.hid (by simp; omega), B2⟩
              case measure => simp [intOf]; omega
      · have HL2 := HL.out
        have h32 : ((sha t).length : Int) = 32 := by rw [sha_length]; rfl
        go_wp2_with fail
        refine (sum_some w.heap.size t wr HH.out HKW.out (by omega)).mono ?_; rintro e w3 ⟨rfl, b3⟩
        have H3 := Lib.hid (HH.out.below b3); have B3 := Lib.hid (below_more HW.out b3 HW.out.size); clear b3
        go_wp2_with fail
        refine (shaSum_any t w3 (HK.out.below B3.out) (by omega)).mono ?_; rintro e w4 ⟨rfl, b4⟩
        have H4 := Lib.hid (H3.out.below b4); have B4 := Lib.hid (below_more B3.out b4 B3.out.size); clear b4
        go_wp2_with fail
        refine (sum_some w.heap.size t w4 H4.out (HK.out.below B4.out) (by omega)).mono ?_; rintro e w5 ⟨rfl, b5⟩
        have H5 := Lib.hid (H4.out.below b5); have B5 := Lib.hid (below_more B4.out b5 B4.out.size); clear b5
        go_wp2_with fail
        refine (shaSum_any t w5 (HK.out.below B5.out) (by omega)).mono ?_; rintro e w6 ⟨rfl, b6⟩
        have H6 := Lib.hid (H5.out.below b6); have B6 := Lib.hid (below_more B5.out b6 B5.out.size); clear b6
        go_wp2_with fail
        refine (sum_some w.heap.size t w6 H6.out (HK.out.below B6.out) (by omega)).mono ?_; rintro e w7 ⟨rfl, b7⟩
        have B7 := Lib.hid (below_more B6.out b7 B6.out.size); clear b7
        go_wp2_with fail
        refine (alive_any w7 (HK.out.below B7.out)).mono ?_; rintro e w8 ⟨rfl, b8⟩
        have B8 := Lib.hid (below_more B7.out b8 B7.out.size); clear b8
        go_wp2_with fail
        go_ret
        exact ⟨rfl, B8.out⟩
end Go.Proofs.YtdkcgjjofhhppaaDoor

/- The walk of the reference's Scan. -/
import Derived.Test.YtdmoolfalcdbjaaDoorOctR3
import Derived.Test.YtdmoolfalcdbjaaDoorScanPlain
import Derived.Test.YtdmoolfalcdbjaaDoorOwnS
import Derived.Test.YtdmoolfalcdbjaaDoorChainR
import Derived.Test.YtdmoolfalcdbjaaDoorScanIt
import Derived.Deep.RegionHeld3
namespace Go.Proofs.YtdmoolfalcdbjaaDoor
set_option linter.unusedVariables false
set_option linter.unusedSimpArgs false
open Go.RowKit Sha Chain
attribute [local go_sem] ByteArray.extract_mk

theorem frame_front {s lk : List UInt8} {p : Nat} {r : List UInt8} {n : Nat} (h : Oct.readText (s.drop p) 8192 = (r, n, 0)) (hl : p + n + 32 ≤ s.length) :
    List.take (p + n + 32 - p) (List.drop p s) = frameL lk r ↔ (s.drop (p + n)).take 32 = nextL lk r := by
  obtain ⟨h1, h2, h3, h4⟩ := readText_ok h
  have hs : List.take (p + n + 32 - p) (List.drop p s) = Oct.text r ++ (s.drop (p + n)).take 32 := by
    rw [show p + n + 32 - p = n + 32 by omega, List.take_add, h4, List.drop_drop]
  rw [hs]
  unfold frameL
  exact List.append_right_inj _

theorem many_of_bad {s : List UInt8} {k : Nat} (hk : k ≤ many s) (h : good s (stt s k).1 (stt s k).2 = none) : k = many s := by
  by_cases h2 : k < many s
  · have := many_good s k h2
    unfold isGood at this
    rw [h] at this
    cases this
  · omega
theorem many_of_good {s : List UInt8} {k : Nat} (hk : k ≤ many s) {x : List UInt8 × Nat} (h : good s (stt s k).1 (stt s k).2 = some x) : k < many s := by
  by_cases h2 : k = many s
  · have := many_end s
    unfold isGood at this
    rw [← h2, h] at this
    cases this
  · omega

set_option maxRecDepth 20000 in
set_option maxHeartbeats 4000000 in
theorem rscan_any (s : List UInt8) (hs : s.length < 100000000) (w : World) :
    Calls Tryd.prog 10 #[.string ⟨s.toArray⟩] w fun e w' => ∃ lv, e = .returned (.tuple #[lv, .string ⟨(scanR s).2.1.toArray⟩, .int .i64 (scanR s).2.2]) ∧ IsStrs w' lv (scanR s).1 ∧ Below w.heap.size w w' := by
  go_enter Tryd.func10, Tryd.ntmps10
  go_wp2_with fail
  refine (rfirst_any w).mono ?_; rintro e w1 ⟨rfl, b1⟩
  have B1 := Lib.hid b1
  clear b1
  go_wp2_with fail
  go_loopw [5, 6, 7] (fun x y i wr => ∃ k p : Nat, k ≤ many s ∧ i = .int .i64 p ∧ Hid (p = (stt s k).2) ∧ ∃ (lv : Value) (lk : List UInt8), x = lv ∧ y = .string ⟨lk.toArray⟩ ∧ Hid (lk = (stt s k).1) ∧ Hid (OwnS wr w.heap.size lv (recs s k)) ∧ Hid (Below w.heap.size w wr)) (fun _ _ i _ => s.length + 1 - (intOf i).toNat)
  case atStart => exact ⟨0, 0, Nat.zero_le _, rfl, rfl, _, zlink, rfl, rfl, rfl, OwnS.nil _ _, B1⟩
  case round =>
    obtain ⟨k, p, hk, rfl, HP, lv, lk, rfl, rfl, HLK, HO, HB⟩ := hrel
    have hpl : p ≤ s.length := by rw [HP.out]; exact at_le s k
    have hpi : (p : Int) ≤ s.length := by omega
    have hlkl : lk.length = 32 := by rw [HLK.out]; exact link_length s k
    rcases hrt : Oct.readText (s.drop p) 8192 with ⟨r, n, e⟩
    have HRT := Lib.hid hrt
    have HRC : Hid (∀ W, Calls Tryd.prog 25 #[.string ⟨(List.drop p s).toArray⟩, .int .i64 8192] W fun e' w' => e' = .returned (.tuple #[.string ⟨r.toArray⟩, .int .i64 n, .int .i64 e]) ∧ Below W.heap.size W w') := fun W => rreadtext_at W (by rw [List.length_drop]; omega) (by omega) (by omega) hrt
    have htk : List.take (s.length - p) (List.drop p s) = List.drop p s := List.take_of_length_le (by rw [List.length_drop]; omega)
    clear hrt
    by_cases he : e = 0
    · subst he
      obtain ⟨hn1, hn2, hn3, _⟩ := readText_ok HRT.out
      rw [List.length_drop] at hn2
      obtain ⟨d, hd⟩ : ∃ d, d = s.length - p := ⟨_, rfl⟩
      have e0 : IntKind.i64.wrap ((s.length : Int) - (p : Int)) = (d : Int) := by rw [IntWalk.i64_in _ (by omega)]; omega
      have e0' : IntKind.i64.wrap ((d : Int) - (n : Int)) = (d : Int) - (n : Int) := by rw [IntWalk.i64_in _ (by omega)]
      by_cases h32 : s.length < p + n + 32
      · have hk2 : k = many s := many_of_bad hk (by
          unfold good
          rw [← HP.out, HRT.out, if_neg]
          rintro ⟨_, h, _⟩
          simp only at h
          omega)
        subst hk2
        have HRT2 : Hid (scanR s = (recs s (many s), lk, p)) := by show _ = _; unfold scanR; rw [← HLK.out, ← HP.out]
        have hlt : (d : Int) - (n : Int) < 32 := by omega
        have hltd : decide ((d : Int) - (n : Int) < 32) = true := by rw [decide_eq_true_iff]; exact hlt
        clear hn1 hn2 hn3 hd h32 hpl
        go_wp2_with fail
        refine (HRC.out wr).mono ?_; rintro e w5 ⟨rfl, b5⟩
        have HO5 := Lib.hid (HO.out.kept (fun g hg => b5.block g (HO.out.lt g hg).2))
        have B5 := Lib.hid (below_more HB.out b5 HB.out.size)
        clear b5
        go_wp2_with fail
        go_quiet (fail)
        go_wp2_with fail
        go_ret3
        exact ⟨_, by rw [HRT2.out]; rfl, by rw [HRT2.out]; exact HO5.out.isStrs.later (below_drewN (Below.refl _ _) _), below_drewN B5.out _⟩
      · obtain ⟨a, ha⟩ : ∃ a, a = p + n := ⟨_, rfl⟩
        obtain ⟨b, hb⟩ : ∃ b, b = a + 32 := ⟨_, rfl⟩
        have hge : (32 : Int) ≤ (d : Int) - (n : Int) := by omega
        have hged : decide ((d : Int) - (n : Int) < 32) = false := by rw [decide_eq_false_iff_not]; omega
        have e1 : IntKind.i64.wrap ((p : Int) + (n : Int)) = (a : Int) := by rw [IntWalk.i64_in _ (by omega)]; omega
        have e2 : IntKind.i64.wrap ((a : Int) + 32) = (b : Int) := by rw [IntWalk.i64_in _ (by omega)]; omega
        have k1 : (p : Int) ≤ b := by omega
        have k2 : b ≤ s.length := by omega
        have k2' : p ≤ b := by omega
        have k3 : (b : Int) ≤ s.length := by omega
        have hrl : r.length < 1000000000 := by omega
        obtain ⟨x, hx⟩ : ∃ x, x = List.take (b - p) (List.drop p s) := ⟨_, rfl⟩
        have e5 := hx.symm
        have HFF : Hid (x = frameL lk r ↔ (s.drop a).take 32 = nextL lk r) := by
          show _ ↔ _
          rw [hx, hb, ha]
          exact frame_front HRT.out (by omega)
        have HFC : Hid (∀ W, Calls Tryd.prog 18 #[.string ⟨lk.toArray⟩, .string ⟨r.toArray⟩] W fun e' w' => e' = .returned (.string ⟨(frameL lk r).toArray⟩) ∧ Below W.heap.size W w') := fun W => rframe_any lk r (by omega) (by omega) W
        have hGood : Hid (good s (stt s k).1 (stt s k).2 = if (s.drop a).take 32 = nextL lk r then some (r, n) else none) := by
          show _ = _
          unfold good
          rw [← HP.out, HRT.out, ← HLK.out]
          simp only
          rw [← ha]
          by_cases hc : (s.drop a).take 32 = nextL lk r
          · rw [if_pos hc, if_pos ⟨trivial, by omega, hc⟩]
          · rw [if_neg hc, if_neg (fun h => hc h.2.2)]
        by_cases hxf : x = frameL lk r
        · have hxb : (x == frameL lk r) = true := by rw [beq_iff_eq]; exact hxf
          have hxn : (x != frameL lk r) = false := by rw [bne_eq_false_iff_eq]; exact hxf
          have hg := hGood.out
          rw [if_pos (HFF.out.1 hxf)] at hg
          have hkm := many_of_good hk hg
          have HST : Hid (stt s (k + 1) = (nextL lk r, b)) := by
            show _ = _
            simp only [stt, hg]
            rw [← HLK.out, ← HP.out, hb, ha]
          have HRC2 : Hid (recs s (k + 1) = recs s k ++ [r]) := by
            show _ = _
            simp only [recs, recAt, hg]
          have HNX : Hid (∀ W, Calls Tryd.prog 19 #[.string ⟨lk.toArray⟩, .string ⟨r.toArray⟩] W fun e' w' => e' = .returned (.string ⟨(nextL lk r).toArray⟩) ∧ Below W.heap.size W w') := fun W => rnext_any lk r (by omega) (by omega) W
          have HKM := Lib.hid hkm
          have HBP : Hid (p < b) := by show _ < _; omega
          clear hg hkm hx hxf hn1 hn2 hn3 hd hpl ha hb
          generalize frameL lk r = f at *
          go_wp2_with fail
          refine (HRC.out wr).mono ?_; rintro e w5 ⟨rfl, b5⟩
          have HO5 := Lib.hid (HO.out.kept (fun g hg => b5.block g (HO.out.lt g hg).2))
          have B5 := Lib.hid (below_more HB.out b5 HB.out.size)
          clear b5
          go_wp2_with fail
          go_region_held3 (fun _ => True) (first | trivial) (first | (go_at_call 18; with_reducible refine (HFC.out _).mono ?_; rintro e w6 ⟨rfl, b6⟩))
          replace b6 := (Below.refl w5.heap.size w5).drew.trans b6
          have HO6 := Lib.hid (HO5.out.kept (fun g hg => b6.block g (HO5.out.lt g hg).2))
          have B6 := Lib.hid (below_more B5.out b6 B5.out.size)
          clear b6
          have hx6 : IsStrs (w6.alloc (.cells #[.string ⟨r.toArray⟩] 9)) (.slice (some ⟨w6.heap.size, 0, none⟩) 1 1) [r] := by
            refine .inr ⟨w6.heap.size, 0, 1, rfl, by simp, by simp, by unfold maxLen; omega, by simp, fun i hi => ?_⟩
            obtain rfl : i = 0 := by simpa using hi
            rw [cell_of_row _ _ _ _ _ _ (heap_alloc_new w6 _)]
            rfl
          have HX6 := Lib.hid hx6
          have HOA := Lib.hid (HO6.out.below (w' := w6.alloc (.cells #[.string ⟨r.toArray⟩] 9)) ((Below.refl _ _).alloc (Nat.le_refl _) _))
          have BA := Lib.hid (B6.out.alloc B6.out.size (.cells #[.string ⟨r.toArray⟩] 9))
          have hml := many_le s
          have hrl2 := recs_length s k
          clear hx6
          go_wp2_with (refine wpList_append_strs (o := ⟨some 50, _, _, _, _, _⟩) rfl (.tmp 47) (.tmp 49) rfl w.heap.size BA.out.size _ _ (recs s k) [r] rfl HOA.out rfl HX6.out (by rw [hrl2]; simp; omega) ?_; intro v7 w7 h7 hs7 hb7; have HO7 := Lib.hid h7; have B7 := Lib.hid (hb7 _ _ BA.out (Nat.le_refl _)); clear h7 hs7 hb7)
          refine (HNX.out w7).mono ?_; rintro e w8 ⟨rfl, b8⟩
          have HO8 := Lib.hid (HO7.out.below b8)
          have B8 := Lib.hid (below_more B7.out b8 B7.out.size)
          clear b8
          go_wp2_with fail
          go_roundw
          case rel => exact ⟨k + 1, b, HKM.out, by go_num, by rw [HST.out]; exact Lib.hid rfl, _, nextL lk r, rfl, rfl, by rw [HST.out]; exact Lib.hid rfl, by rw [HRC2.out]; exact HO8, B8⟩
          case measure => simp [intOf]; have := HBP.out; omega
        · have hxb : (x == frameL lk r) = false := by rw [beq_eq_false_iff_ne]; exact hxf
          have hxn : (x != frameL lk r) = true := by rw [bne_iff_ne]; exact hxf
          have hg := hGood.out
          rw [if_neg (fun h => hxf (HFF.out.2 h))] at hg
          have hk2 : k = many s := many_of_bad hk hg
          subst hk2
          have HRT2 : Hid (scanR s = (recs s (many s), lk, p)) := by show _ = _; unfold scanR; rw [← HLK.out, ← HP.out]
          clear hg hx hxf hn1 hn2 hn3 hd hpl ha hb
          generalize frameL lk r = f at *
          go_wp2_with fail
          refine (HRC.out wr).mono ?_; rintro e w5 ⟨rfl, b5⟩
          have HO5 := Lib.hid (HO.out.kept (fun g hg => b5.block g (HO.out.lt g hg).2))
          have B5 := Lib.hid (below_more HB.out b5 HB.out.size)
          clear b5
          go_wp2_with fail
          go_region_held3 (fun _ => True) (first | trivial) (first | (go_at_call 18; with_reducible refine (HFC.out _).mono ?_; rintro e w6 ⟨rfl, b6⟩))
          replace b6 := (Below.refl w5.heap.size w5).drew.trans b6
          go_wp2_with fail
          go_ret3
          exact ⟨_, by rw [HRT2.out]; rfl, by rw [HRT2.out]; exact (HO5.out.kept (fun g hg => b6.block g (HO5.out.lt g hg).2)).isStrs, below_more B5.out b6 B5.out.size⟩
    · have hk2 : k = many s := many_of_bad hk (by
        unfold good
        rw [← HP.out, HRT.out, if_neg]
        rintro ⟨h, _⟩
        exact he h)
      subst hk2
      have HRT2 : Hid (scanR s = (recs s (many s), lk, p)) := by show _ = _; unfold scanR; rw [← HLK.out, ← HP.out]
      have hx1 : ((e : Int) == 0) = false := by rw [beq_eq_false_iff_ne]; omega
      have hx2 : ((e : Int) != 0) = true := by rw [bne_iff_ne]; omega
      go_wp2_with fail
      refine (HRC.out wr).mono ?_; rintro e' w5 ⟨rfl, b5⟩
      have HO5 := Lib.hid (HO.out.kept (fun g hg => b5.block g (HO.out.lt g hg).2))
      have B5 := Lib.hid (below_more HB.out b5 HB.out.size)
      clear b5
      go_wp2_with fail
      go_quiet (fail)
      go_wp2_with fail
      go_ret3
      exact ⟨_, by rw [HRT2.out]; rfl, by rw [HRT2.out]; exact HO5.out.isStrs.later (below_drewN (Below.refl _ _) _), below_drewN B5.out _⟩
end Go.Proofs.YtdmoolfalcdbjaaDoor

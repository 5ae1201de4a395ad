/- The walks of chain's check, Frame, Next, Frames. -/
import Derived.Test.YtdmoolfalcdbjaaDoorChainW1
import Derived.Test.YtdmoolfalcdbjaaDoorOctW3
import Derived.Test.YtdmoolfalcdbjaaDoorStrs
import Derived.WalkSmall
namespace Go.Proofs.YtdmoolfalcdbjaaDoor
set_option linter.unusedVariables false
set_option linter.unusedSimpArgs false
open Go.RowKit Sha Chain
attribute [local go_sem] ByteArray.mk_append_mk

/-- a row of texts as IsStrs tells it, one form for all. -/
theorem IsStrs.at {w : World} {v : Value} {ls : List (List UInt8)} (h : IsStrs w v ls) : ∃ a cap, v = .slice a ls.length cap ∧ ls.length ≤ maxLen ∧ ∀ i (hi : i < ls.length), ∃ b off, a = some ⟨b, off, none⟩ ∧ b < w.heap.size ∧ w.cell? ⟨b, off + i, none⟩ = some (.string ⟨(ls[i]).toArray⟩) := by
  have hl := h.length_le
  rcases h with ⟨rfl, a, cap, rfl, _⟩ | ⟨b, off, cap, rfl, _, _, _, hb, hc⟩
  · exact ⟨a, cap, rfl, hl, fun i hi => absurd hi (Nat.not_lt_zero i)⟩
  · exact ⟨_, cap, rfl, hl, fun i hi => ⟨b, off, rfl, hb, hc i hi⟩⟩
theorem IsStrs.one (w : World) (r : List UInt8) : IsStrs (w.alloc (.cells #[.string ⟨r.toArray⟩] 9)) (.slice (some ⟨w.heap.size, 0, none⟩) 1 1) [r] :=
  .inr ⟨w.heap.size, 0, 1, rfl, by simp, by simp, by unfold maxLen; omega, by simp, fun i hi => by
    obtain rfl : i = 0 := by simpa using hi
    rw [cell_of_row _ _ _ _ _ _ (heap_alloc_new w _)]
    rfl⟩

theorem check_bad (f : List UInt8) (hf : f.length ≠ 32) (hl : f.length < 1000000000) (v : Value) (w : World) :
    Calls Tryd.prog 26 #[.string ⟨f.toArray⟩, v] w fun e w' => e = .returned (.int .i64 2) ∧ w = w' := by
  have e1 : ((f.length : Int) != 32) = true := by rw [bne_iff_ne]; omega
  have e2 : (f.length != 32) = true := by rw [bne_iff_ne]; exact hf
  clear hf
  go_enter Tryd.func26, Tryd.ntmps26
  go_wp2
  go_ret
  exact ⟨rfl, rfl⟩

theorem all_next (ls : List (List UInt8)) (k : Nat) (h : k < ls.length) (ha : (ls.take k).all fits = true) (hr : (ls[k]).length ≤ 8192) : (ls.take (k + 1)).all fits = true := by
  rw [List.take_succ_eq_append_getElem h, List.all_append, ha]
  simp [fits, hr]

set_option maxRecDepth 20000 in
set_option maxHeartbeats 1000000 in
theorem check_good (f : List UInt8) (hf : f.length = 32) (v : Value) (ls : List (List UInt8)) (w : World) (hv : IsStrs w v ls) :
    Calls Tryd.prog 26 #[.string ⟨f.toArray⟩, v] w fun e w' => e = .returned (.int .i64 (chk ls)) ∧ w = w' := by
  obtain ⟨a, cap, rfl, hn, hs⟩ := hv.at
  have e1 : ((f.length : Int) != 32) = false := by rw [bne_eq_false_iff_eq]; omega
  have e2 : (f.length != 32) = false := by rw [bne_eq_false_iff_eq]; exact hf
  have HS := Lib.hid hs
  unfold maxLen at hn
  clear hf hv hs
  go_enter Tryd.func26, Tryd.ntmps26
  go_wp2_with fail
  go_loop [12] (fun i => ∃ k : Nat, k ≤ ls.length ∧ i = .int .i64 k ∧ Hid ((ls.take k).all fits = true)) (fun i => ls.length - (intOf i).toNat)
  case atStart => exact ⟨0, by omega, rfl, rfl⟩
  case round =>
    obtain ⟨k, hk, rfl, HQ⟩ := hrel
    by_cases hlt : k < ls.length
    · obtain ⟨b, off, rfl, hbl, hc⟩ := HS.out k hlt
      have hki : (k : Int) < ls.length := by omega
      by_cases hA : 8192 < (ls[k]).length
      · have hA2 : (8192 : Int) < (ls[k]).length := by omega
        have HF : Hid (chk ls = 5) := by
          show _ = _
          unfold chk
          rw [if_neg]
          intro h
          have := List.all_eq_true.1 h _ (List.getElem_mem hlt)
          unfold fits at this
          rw [decide_eq_true_iff] at this
          omega
        go_wp2_with fail
        go_ret
        exact ⟨congrArg (fun n : Nat => Ending.returned (.int .i64 n)) HF.out.symm, rfl⟩
      · have hA2 : ((ls[k]).length : Int) ≤ 8192 := by omega
        have HQ2 := Lib.hid (all_next ls k hlt HQ.out (by omega))
        go_wp2_with fail
        go_round
        case rel => exact ⟨k + 1, by omega, by go_num, HQ2⟩
        case measure => simp [intOf]; omega
    · obtain rfl : k = ls.length := by omega
      have HF : Hid (chk ls = 0) := by
        have := HQ.out
        rw [List.take_length] at this
        show _ = _
        unfold chk
        rw [if_pos this]
      go_wp2_with fail
      go_ret
      exact ⟨congrArg (fun n : Nat => Ending.returned (.int .i64 n)) HF.out.symm, rfl⟩

/-- what Frame answers. -/
def frameR (f r : List UInt8) : List UInt8 × List UInt8 × Nat :=
  if f.length ≠ 32 then ([], [], 2) else if 8192 < r.length then ([], [], 5) else (frameL f r, nextL f r, 0)
def tup3s (p : List UInt8 × List UInt8 × Nat) : Value := .tuple #[.string ⟨p.1.toArray⟩, .string ⟨p.2.1.toArray⟩, .int .i64 p.2.2]

set_option maxRecDepth 20000 in
set_option maxHeartbeats 2000000 in
theorem frame_any (f r : List UInt8) (hf : f.length < 1000000000) (hr : r.length < 1000000000) (w : World) (hkl : KLaid w) :
    Calls Tryd.prog 16 #[.string ⟨f.toArray⟩, .string ⟨r.toArray⟩] w fun e w' => e = .returned (tup3s (frameR f r)) ∧ Below w.heap.size w w' := by
  have HK := Lib.hid hkl
  have HB0 : Hid (Below w.heap.size w (w.alloc (.cells #[.string ⟨r.toArray⟩] 9))) := (Below.refl _ _).alloc (Nat.le_refl _) _
  clear hkl
  by_cases h32 : f.length = 32
  · by_cases h8 : 8192 < r.length
    · have HF : Hid (frameR f r = ([], [], 5)) := by show _ = _; unfold frameR; rw [if_neg (by omega), if_pos h8]
      have HC : Hid (chk [r] = 5) := by show _ = _; unfold chk fits; rw [if_neg]; simp; omega
      have HCK := Lib.hid (check_good f h32 _ [r] _ (IsStrs.one w r))
      clear h32 h8
      go_enter Tryd.func16, Tryd.ntmps16
      go_wp2_with fail
      refine HCK.out.mono ?_; rintro e w1 ⟨rfl, rfl⟩
      rw [HC.out]
      go_wp2_with fail
      go_ret3
      exact ⟨congrArg (fun p => Ending.returned (tup3s p)) HF.out.symm, HB0.out⟩
    · have HF : Hid (frameR f r = (frameL f r, nextL f r, 0)) := by show _ = _; unfold frameR; rw [if_neg (by omega), if_neg h8]
      have HFL : Hid (frameL f r = Oct.text r ++ nextL f r) := rfl
      have HC : Hid (chk [r] = 0) := by show _ = _; unfold chk fits; rw [if_pos]; simp; omega
      have HCK := Lib.hid (check_good f h32 _ [r] _ (IsStrs.one w r))
      have H32 := Lib.hid h32
      have h8' : r.length ≤ 8192 := by omega
      have hz := zero_link
      have hsl := run_slice_link
      have HN := Lib.hid (nextL_length f r)
      have z1 : (nextL f r).length ≤ 32 := by rw [HN.out]; omega
      have z2 : (Oct.text r).length ≤ 10000 := by rw [Oct.text_length]; have := Oct.num_length_le r.length; omega
      clear h32 h8
      go_enter Tryd.func16, Tryd.ntmps16
      go_wp2_with fail
      refine HCK.out.mono ?_; rintro e w1 ⟨rfl, rfl⟩
      rw [HC.out]
      go_wp2_with fail
      refine (of_any f H32.out _).mono ?_; rintro e w2 ⟨rfl, b2⟩
      have HB2 := Lib.hid (below_more HB0.out b2 HB0.out.size)
      clear b2
      go_wp2_with fail
      refine (next_any f r H32.out (by omega) w2 (HK.out.below HB2.out)).mono ?_; rintro e w3 ⟨rfl, b3⟩
      have HB3 := Lib.hid (below_more HB2.out b3 HB2.out.size)
      clear b3
      generalize nextL f r = m at *
      have hcv : ∀ W, W.heap[w3.heap.size]? = some (.cells (brow m) 49 (0, 0)) → (convert 44 9 (.slice (some ⟨w3.heap.size, 0, none⟩) 32 32)).run Tryd.prog W = .ok (.string ⟨m.toArray⟩) W := fun W hW => conv_brow HN.out hW
      have HCV := Lib.hid hcv
      clear hcv
      go_wp2_with (refine wpList_self_link (o := ⟨none, .store 49 (.tmp 8) (.tmp 19), _, _, _, _⟩) rfl (.tmp 8) (.tmp 19) rfl w3.heap.size rfl m (zrow 32) rfl (heap_alloc_new w3 _) (zrow_length 32) HN.out ?_; intro W6 hW6 hG6; have hcv6 := HCV.out W6 hW6; have B6 := Lib.hid ((HB3.out.alloc HB3.out.size _).grown hG6 (by have := HB3.out.size; simp; omega) (fun k hk => by have := HB3.out.size; have := Option.some.inj hk; omega)); clear hW6 hG6)
      refine (text_any r W6 (by omega)).mono ?_; rintro e w7 ⟨rfl, b7⟩
      have HB7 := Lib.hid (below_more B6.out b7 B6.out.size)
      clear b7
      go_wp2_with fail
      go_ret3
      exact ⟨(congrArg (fun l : List UInt8 => Ending.returned (tup3s (l, m, 0))) HFL.out.symm).trans (congrArg (fun p => Ending.returned (tup3s p)) HF.out.symm), HB7.out⟩
  · have HF : Hid (frameR f r = ([], [], 2)) := by show _ = _; unfold frameR; rw [if_pos h32]
    have HCK := Lib.hid fun v W => check_bad f h32 hf v W
    clear h32
    go_enter Tryd.func16, Tryd.ntmps16
    go_wp2_with fail
    refine (HCK.out _ _).mono ?_; rintro e w1 ⟨rfl, rfl⟩
    go_wp2_with fail
    go_ret3
    exact ⟨congrArg (fun p => Ending.returned (tup3s p)) HF.out.symm, HB0.out⟩

set_option maxRecDepth 20000 in
theorem cnext_any (f r : List UInt8) (hf : f.length < 1000000000) (hr : r.length < 1000000000) (w : World) (hkl : KLaid w) :
    Calls Tryd.prog 17 #[.string ⟨f.toArray⟩, .string ⟨r.toArray⟩] w fun e w' => e = .returned (.tuple #[.string ⟨(frameR f r).2.1.toArray⟩, .int .i64 (frameR f r).2.2]) ∧ Below w.heap.size w w' := by
  have HF := Lib.hid (frame_any f r hf hr w hkl)
  clear hkl
  unfold tup3s at HF
  generalize frameR f r = p at *
  obtain ⟨p, q, n⟩ := p
  go_enter Tryd.func17, Tryd.ntmps17
  go_wp2_with fail
  refine HF.out.mono ?_; rintro e w1 ⟨rfl, b1⟩
  go_wp2_with fail
  go_ret2
  exact ⟨rfl, b1⟩
end Go.Proofs.YtdmoolfalcdbjaaDoor

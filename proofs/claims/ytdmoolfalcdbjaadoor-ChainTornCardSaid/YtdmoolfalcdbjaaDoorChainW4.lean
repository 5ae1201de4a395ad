/- The walks of the statements' own long and alive. -/
import Derived.Test.YtdmoolfalcdbjaaDoorChainR
import Derived.Test.YtdmoolfalcdbjaaDoorKLaid
namespace Go.Proofs.YtdmoolfalcdbjaaDoor
set_option linter.unusedVariables false
set_option linter.unusedSimpArgs false
open Go.RowKit Sha Chain
attribute [local go_sem] ByteArray.mk_append_mk

def lngL : Nat → List (List UInt8) → Bool
  | _, [] => false
  | n, r :: rs => decide (16384 < r.length) || decide (32768 < n) || lngL (n + r.length) rs
/-- what long answers. -/
def lng (ls : List (List UInt8)) : Bool := lngL 0 ls || decide (60 < ls.length)
theorem lngL_false : ∀ (ls : List (List UInt8)) (n : Nat), n ≤ 49152 → lngL n ls = false → n + total ls ≤ 49152 ∧ ∀ r ∈ ls, r.length ≤ 16384
  | [], n, h, _ => ⟨by simpa [total] using h, fun r hr => by cases hr⟩
  | r :: rs, n, h, hf => by
    rw [lngL, Bool.or_eq_false_iff, Bool.or_eq_false_iff, decide_eq_false_iff_not, decide_eq_false_iff_not] at hf
    obtain ⟨h1, h2⟩ := lngL_false rs (n + r.length) (by omega) hf.2
    refine ⟨by simp only [total]; omega, fun x hx => ?_⟩
    rcases List.mem_cons.1 hx with rfl | hx
    · omega
    · exact h2 x hx
theorem lng_false {ls : List (List UInt8)} (h : lng ls = false) : total ls ≤ 49152 ∧ ls.length ≤ 60 ∧ ∀ r ∈ ls, r.length ≤ 16384 := by
  unfold lng at h
  rw [Bool.or_eq_false_iff, decide_eq_false_iff_not] at h
  have := lngL_false ls 0 (by omega) h.1
  exact ⟨by omega, by omega, this.2⟩
theorem lngL_drop (ls : List (List UInt8)) (k n : Nat) (h : k < ls.length) : lngL n (ls.drop k) = (decide (16384 < (ls[k]).length) || decide (32768 < n) || lngL (n + (ls[k]).length) (ls.drop (k + 1))) := by
  rw [List.drop_eq_getElem_cons h, lngL]

set_option maxRecDepth 20000 in
set_option maxHeartbeats 1000000 in
theorem long_any (v : Value) (ls : List (List UInt8)) (w : World) (hv : IsStrs w v ls) :
    Calls Tryd.prog 13 #[v] w fun e w' => e = .returned (.bool (lng ls)) ∧ w = w' := by
  obtain ⟨a, cap, rfl, hn, hs⟩ := hv.at
  have HS := Lib.hid hs
  unfold maxLen at hn
  clear hv hs
  go_enter Tryd.func13, Tryd.ntmps13
  go_wp2_with fail
  go_loop [3, 4] (fun x i => ∃ k n : Nat, k ≤ ls.length ∧ i = .int .i64 k ∧ x = .int .i64 n ∧ n ≤ 49152 ∧ Hid (lngL n (ls.drop k) = lngL 0 ls)) (fun _ i => ls.length - (intOf i).toNat)
  case atStart => exact ⟨0, 0, by omega, rfl, rfl, by omega, rfl⟩
  case round =>
    obtain ⟨k, n, hk, rfl, rfl, hn2, HQ⟩ := hrel
    by_cases hlt : k < ls.length
    · obtain ⟨b, off, rfl, hbl, hc⟩ := HS.out k hlt
      have hki : (k : Int) < ls.length := by omega
      have hQ := HQ.out
      rw [lngL_drop ls k n hlt] at hQ
      by_cases hA : 16384 < (ls[k]).length
      · have hA2 : (16384 : Int) < (ls[k]).length := by omega
        have HF : Hid (lng ls = true) := by show _ = _; unfold lng; rw [← hQ]; simp [hA]
        clear hQ
        go_wp2_with fail
        go_ret
        exact ⟨congrArg (fun x => Ending.returned (.bool x)) HF.out.symm, rfl⟩
      · have hA2 : ((ls[k]).length : Int) ≤ 16384 := by omega
        have hA3 : decide ((16384 : Int) < ((ls[k]).length : Int)) = false := by rw [decide_eq_false_iff_not]; omega
        by_cases hT : 32768 < n
        · have hT2 : (32768 : Int) < n := by omega
          have HF : Hid (lng ls = true) := by show _ = _; unfold lng; rw [← hQ]; simp [hT]
          clear hQ
          go_wp2_with fail
          go_ret
          exact ⟨congrArg (fun x => Ending.returned (.bool x)) HF.out.symm, rfl⟩
        · have hT2 : (n : Int) ≤ 32768 := by omega
          have hT3 : decide ((32768 : Int) < (n : Int)) = false := by rw [decide_eq_false_iff_not]; omega
          have HQ2 : Hid (lngL (n + (ls[k]).length) (ls.drop (k + 1)) = lngL 0 ls) := by
            show _ = _
            rw [← hQ]
            simp [hA, hT]
          clear hQ
          go_wp2_with fail
          go_round
          case rel => exact ⟨k + 1, n + (ls[k]).length, by omega, by go_num, by go_num, by omega, HQ2⟩
          case measure => simp [intOf]; omega
    · obtain rfl : k = ls.length := by omega
      have hQ := HQ.out
      rw [List.drop_length] at hQ
      have HF : Hid (lng ls = decide (60 < ls.length)) := by show _ = _; unfold lng; rw [← hQ]; simp [lngL]
      clear hQ
      by_cases h60 : 60 < ls.length
      · have h60i : (60 : Int) < ls.length := by omega
        have HE : Hid (lng ls = true) := by show _ = _; rw [HF.out]; simp [h60]
        go_wp2_with fail
        go_ret
        exact ⟨congrArg (fun x => Ending.returned (.bool x)) HE.out.symm, rfl⟩
      · have h60i : (ls.length : Int) ≤ 60 := by omega
        have h60d : decide ((60 : Int) < (ls.length : Int)) = false := by rw [decide_eq_false_iff_not]; omega
        have HE : Hid (lng ls = false) := by show _ = _; rw [HF.out]; simp [h60]
        go_wp2_with fail
        go_ret
        exact ⟨congrArg (fun x => Ending.returned (.bool x)) HE.out.symm, rfl⟩

theorem frames_at {v : Value} {ls : List (List UInt8)} {p q : List UInt8} {n : Nat} (w : World) (hv : IsStrs w v ls) (hkl : KLaid w) (hb : total ls + 41 * ls.length < 1000000000) (h : framesR ls = (p, q, n)) :
    Calls Tryd.prog 14 #[v] w fun e w' => e = .returned (.tuple #[.string ⟨p.toArray⟩, .string ⟨q.toArray⟩, .int .i64 n]) ∧ Below w.heap.size w w' := by
  have := frames_any v ls w hv hkl hb
  rw [h] at this
  exact this
theorem rframes_at {v : Value} {ls : List (List UInt8)} {p q : List UInt8} {n : Nat} (w : World) (hv : IsStrs w v ls) (hb : total ls + 41 * ls.length < 1000000000) (hbig : ∀ r ∈ ls, r.length < 1000000000) (h : framesR ls = (p, q, n)) :
    Calls Tryd.prog 20 #[v] w fun e w' => e = .returned (.tuple #[.string ⟨p.toArray⟩, .string ⟨q.toArray⟩, .int .i64 n]) ∧ Below w.heap.size w w' := by
  have := rframes_any v ls w hv hb hbig
  rw [h] at this
  exact this

theorem text_abc : Oct.text [97, 98, 99] = [3, 97, 98, 99] := by decide +kernel
set_option maxRecDepth 20000 in
set_option maxHeartbeats 2000000 in
theorem alive_any (w : World) (hk : KLaid w) :
    Calls Tryd.prog 8 #[] w fun e w' => e = .returned (.bool true) ∧ Below w.heap.size w w' := by
  have HK := Lib.hid hk
  clear hk
  have HFR : Hid (frameR zlink [97, 98, 99] = ([3, 97, 98, 99] ++ nextL zlink [97, 98, 99], nextL zlink [97, 98, 99], 0)) := by
    show _ = _
    rw [frameR_good zlink_length (by decide), frameL, text_abc]
  have HNX : Hid (nextL zlink [97, 98, 99] = sha (zlink ++ [97, 98, 99])) := rfl
  have HF0 : Hid (framesR [] = ([], zlink, 0)) := rfl
  have hmk : ∀ W : World, (Instr.makeSlice 44 (.int .i64 32) (.int .i64 32)).run Tryd.prog W = .ok (.slice (some ⟨W.heap.size, 0, none⟩) 32 32) (W.alloc (.cells (brow (zrow 32)) 5)) := run_make_bytes 32 (by omega)
  have hcv : ∀ W : World, (convert 44 9 (.slice (some ⟨W.heap.size, 0, none⟩) 32 32)).run Tryd.prog (W.alloc (.cells (brow (zrow 32)) 5)) = .ok (.string ⟨zlink.toArray⟩) (W.alloc (.cells (brow (zrow 32)) 5)) := conv_zeros 32
  have z1 : (nextL zlink [97, 98, 99]).length ≤ 32 := by rw [nextL_length]; omega
  have z2 : zlink.length ≤ 32 := by rw [zlink_length]; omega
  generalize nextL zlink [97, 98, 99] = m at *
  have hz := zlink_length
  have HFI := Lib.hid fun W => first_any W
  have habc : ([3, 97, 98, 99] : List UInt8).length ≤ 4 := by decide
  have HZ := Lib.hid hz
  clear hz
  generalize zlink = z at *
  go_enter Tryd.func8, Tryd.ntmps8
  go_wp2_with fail
  refine (frames_at w (.inl ⟨rfl, none, 0, rfl, Nat.zero_le _⟩) HK.out (by decide) HF0.out).mono ?_; rintro e w1 ⟨rfl, b1⟩
  have B1 := Lib.hid b1
  clear b1
  go_wp2_with fail
  refine (HFI.out w1).mono ?_; rintro e w2 ⟨rfl, b2⟩
  have B2 := Lib.hid (below_more B1.out b2 B1.out.size)
  clear b2
  go_wp2_with fail
  refine (frame_at (by omega) (by decide) w2 (HK.out.below B2.out) HFR.out).mono ?_; rintro e w3 ⟨rfl, b3⟩
  have B3 := Lib.hid (below_more B2.out b3 B2.out.size)
  clear b3
  go_wp2_with fail
  refine (refSum_any (z ++ [97, 98, 99]) (by rw [List.length_append, HZ.out]; decide) _).mono ?_; rintro e w4 ⟨rfl, b4⟩
  rw [show sha (z ++ [97, 98, 99]) = m from HNX.out.symm]
  have B4 := Lib.hid (below_more (B3.out.alloc B3.out.size _) b4 (Nat.le_trans B3.out.size (by simp)))
  clear b4 hmk hcv
  go_wp2_with fail
  refine (HFI.out w4).mono ?_; rintro e w5 ⟨rfl, b5⟩
  have B5 := Lib.hid (below_more B4.out b5 B4.out.size)
  clear b5
  go_wp2_with fail
  go_ret
  exact ⟨rfl, B5.out⟩
end Go.Proofs.YtdmoolfalcdbjaaDoor

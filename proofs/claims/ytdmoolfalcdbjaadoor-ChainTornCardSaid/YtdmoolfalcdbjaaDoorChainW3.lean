/- The walk of chain.Frames. -/
import Derived.Test.YtdmoolfalcdbjaaDoorChainW2
namespace Go.Proofs.YtdmoolfalcdbjaaDoor
set_option linter.unusedVariables false
set_option linter.unusedSimpArgs false
open Go.RowKit Sha Chain
attribute [local go_sem] ByteArray.mk_append_mk

/-- what Frames answers. -/
def framesR (ls : List (List UInt8)) : List UInt8 × List UInt8 × Nat := if chk ls = 0 then (framesL zlink ls, headL zlink ls, 0) else ([], [], 5)

theorem frame_at {f r p q : List UInt8} {n : Nat} (hf : f.length < 1000000000) (hr : r.length < 1000000000) (w : World) (hkl : KLaid w) (h : frameR f r = (p, q, n)) :
    Calls Tryd.prog 16 #[.string ⟨f.toArray⟩, .string ⟨r.toArray⟩] w fun e w' => e = .returned (.tuple #[.string ⟨p.toArray⟩, .string ⟨q.toArray⟩, .int .i64 n]) ∧ Below w.heap.size w w' := by
  have := frame_any f r hf hr w hkl
  rw [h] at this
  exact this
theorem frameR_good {f r : List UInt8} (hf : f.length = 32) (hr : r.length ≤ 8192) : frameR f r = (frameL f r, nextL f r, 0) := by
  unfold frameR; rw [if_neg (by omega), if_neg (by omega)]

set_option maxRecDepth 20000 in
set_option maxHeartbeats 4000000 in
theorem frames_any (v : Value) (ls : List (List UInt8)) (w : World) (hv : IsStrs w v ls) (hkl : KLaid w) (hb : total ls + 41 * ls.length < 1000000000) :
    Calls Tryd.prog 14 #[v] w fun e w' => e = .returned (tup3s (framesR ls)) ∧ Below w.heap.size w w' := by
  have HV := Lib.hid hv
  obtain ⟨a, cap, rfl, hn, hs⟩ := hv.at
  have HK := Lib.hid hkl
  have HS := Lib.hid hs
  unfold maxLen at hn
  clear hkl hv hs
  rcases chk_cases ls with hc0 | hc5
  · have HF : Hid (framesR ls = (framesL zlink ls, headL zlink ls, 0)) := by show _ = _; unfold framesR; rw [if_pos hc0]
    have HC0 := Lib.hid hc0
    have HOK := Lib.hid (chk_ok hc0)
    clear hc0
    go_enter Tryd.func14, Tryd.ntmps14
    go_wp2_with fail
    refine (first_any w).mono ?_; rintro e w1 ⟨rfl, b1⟩
    have B1 := Lib.hid b1
    have HV1 := Lib.hid (HV.out.later b1)
    clear b1
    go_wp2_with fail
    refine (check_good zlink zlink_length _ ls w1 HV1.out).mono ?_; rintro e w2 ⟨rfl, rfl⟩
    rw [HC0.out]
    go_wp2_with fail
    go_loopw [2, 3, 18] (fun x y i wr => ∃ k : Nat, k ≤ ls.length ∧ i = .int .i64 k ∧ ∃ t h : List UInt8, x = .string ⟨t.toArray⟩ ∧ y = .string ⟨h.toArray⟩ ∧ Hid (t = framesL zlink (ls.take k)) ∧ Hid (h = headL zlink (ls.take k)) ∧ Hid (Below w.heap.size w wr)) (fun _ _ i _ => ls.length - (intOf i).toNat)
    case atStart => exact ⟨0, by omega, rfl, [], zlink, rfl, rfl, rfl, rfl, B1⟩
    case round =>
      obtain ⟨k, hk, rfl, t, h, rfl, rfl, HT, HH, HB⟩ := hrel
      by_cases hlt : k < ls.length
      · obtain ⟨b, off, rfl, hbl, hc⟩ := HS.out k hlt
        have hki : (k : Int) < ls.length := by omega
        have hcw : wr.cell? ⟨b, off + k, none⟩ = some (.string ⟨(ls[k]).toArray⟩) := (HB.out.cell (p := ⟨b, off + k, none⟩) hbl).trans hc
        have HT2 := Lib.hid (framesL_next ls zlink k hlt)
        have HH2 := Lib.hid (headL_next ls zlink k hlt)
        have hle := framesL_le (ls.take k) zlink
        have hta := total_at ls k hlt
        have htt := total_take ls (k + 1)
        have htl : (ls.take k).length = k := by rw [List.length_take]; omega
        rw [htl] at hle
        have h8 := HOK.out _ (List.getElem_mem hlt)
        have HHL : Hid (h.length = 32) := by rw [HH.out]; exact headL_length _ _ zlink_length
        have hfl := frameL_le h ls[k]
        have htb : t.length ≤ total (ls.take k) + 41 * k := by rw [HT.out]; exact hle
        rw [← HT.out] at HT2
        rw [← HH.out] at HT2 HH2
        clear hc hle htl
        generalize ls[k] = r at *
        have HFR := Lib.hid (frameR_good HHL.out h8)
        have z1 : t.length ≤ 1000000000 := by omega
        have z2 : (frameL h r).length ≤ 10000 := by omega
        clear hta htt hfl htb
        go_wp2_with fail
        refine (frame_at (by have := HHL.out; omega) (by omega) wr (HK.out.below HB.out) HFR.out).mono ?_; rintro e w5 ⟨rfl, b5⟩
        have B5 := Lib.hid (below_more HB.out b5 HB.out.size)
        clear b5
        go_wp2_with fail
        go_roundw
        case rel => exact ⟨k + 1, by omega, by go_num, t ++ frameL h r, nextL h r, rfl, rfl, Lib.hid HT2.out.symm, Lib.hid HH2.out.symm, B5⟩
        case measure => simp [intOf]; omega
      · obtain rfl : k = ls.length := by omega
        rw [List.take_length] at HT HH
        go_wp2_with fail
        go_ret3
        exact ⟨congrArg (fun p => Ending.returned (tup3s p)) (show (t, h, 0) = framesR ls by rw [HF.out, HT.out, HH.out]), HB.out⟩
  · have HF : Hid (framesR ls = ([], [], 5)) := by show _ = _; unfold framesR; rw [if_neg (by omega)]
    have HC0 := Lib.hid hc5
    clear hc5
    go_enter Tryd.func14, Tryd.ntmps14
    go_wp2_with fail
    refine (first_any w).mono ?_; rintro e w1 ⟨rfl, b1⟩
    have B1 := Lib.hid b1
    have HV1 := Lib.hid (HV.out.later b1)
    clear b1
    go_wp2_with fail
    refine (check_good zlink zlink_length _ ls w1 HV1.out).mono ?_; rintro e w2 ⟨rfl, rfl⟩
    rw [HC0.out]
    go_wp2_with fail
    go_ret3
    exact ⟨congrArg (fun p => Ending.returned (tup3s p)) HF.out.symm, B1.out⟩
end Go.Proofs.YtdmoolfalcdbjaaDoor

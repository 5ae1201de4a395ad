/- The walks of the reference's texts, frames, links. -/
import Derived.Test.YtdmoolfalcdbjaaDoorChainW3
import Derived.Test.YtdmoolfalcdbjaaDoorOctR2
import Derived.Test.YtdmoolfalcdbjaaDoorShaR5
namespace Go.Proofs.YtdmoolfalcdbjaaDoor
set_option linter.unusedVariables false
set_option linter.unusedSimpArgs false
open Go.RowKit Sha Chain
attribute [local go_sem] ByteArray.mk_append_mk

set_option maxRecDepth 20000 in
set_option maxHeartbeats 400000 in
/-- the reference's Text. -/
theorem rtext_any (l : List UInt8) (w : World) (hm : l.length < 1000000000) :
    Calls Tryd.prog 27 #[.string ⟨l.toArray⟩] w fun e w' => e = .returned (.string ⟨(Oct.text l).toArray⟩) ∧ Below w.heap.size w w' := by
  have hn := Oct.num_length_le l.length
  have HT := Lib.hid (show Oct.text l = Oct.num l.length ++ l from rfl)
  have HN := Lib.hid (rnum_any (w := w) l.length (by rw [Oct.p8]; omega))
  go_enter Tryd.func27, Tryd.ntmps27
  go_wp2_with (go_at_call 36; refine HN.out.mono ?_; rintro e w' ⟨rfl, hb⟩)
  go_ret
  exact ⟨by rw [HT.out, ← ByteArray.mk_append_mk]; rfl, hb⟩

theorem rfirst_any (w : World) :
    Calls Tryd.prog 24 #[] w fun e w' => e = .returned (.string ⟨zlink.toArray⟩) ∧ Below w.heap.size w w' := by
  have hmk : ∀ W : World, (Instr.makeSlice 44 (.int .i64 32) (.int .i64 32)).run Tryd.prog W = .ok (.slice (some ⟨W.heap.size, 0, none⟩) 32 32) (W.alloc (.cells (brow (zrow 32)) 5)) := run_make_bytes 32 (by omega)
  have hcv := conv_zeros 32
  have HZ : Hid (zlink = zrow 32) := rfl
  go_enter Tryd.func24, Tryd.ntmps24
  go_wp2
  go_ret
  exact ⟨congrArg (fun l : List UInt8 => Ending.returned (.string ⟨l.toArray⟩)) HZ.out.symm, (Below.refl _ _).alloc (Nat.le_refl _) _⟩

set_option maxRecDepth 20000 in
theorem rnext_any (l r : List UInt8) (hl : l.length < 1000000000) (hr : r.length < 1000000000) (w : World) :
    Calls Tryd.prog 19 #[.string ⟨l.toArray⟩, .string ⟨r.toArray⟩] w fun e w' => e = .returned (.string ⟨(nextL l r).toArray⟩) ∧ Below w.heap.size w w' := by
  go_enter Tryd.func19, Tryd.ntmps19
  go_wp2_with fail
  refine (refSum_any (l ++ r) (by rw [List.length_append]; omega) w).mono ?_; rintro e w1 ⟨rfl, b1⟩
  go_wp2_with fail
  go_ret
  exact ⟨rfl, b1⟩

set_option maxRecDepth 20000 in
theorem rframe_any (l r : List UInt8) (hl : l.length < 1000000000) (hr : r.length < 1000000000) (w : World) :
    Calls Tryd.prog 18 #[.string ⟨l.toArray⟩, .string ⟨r.toArray⟩] w fun e w' => e = .returned (.string ⟨(frameL l r).toArray⟩) ∧ Below w.heap.size w w' := by
  have HF : Hid (frameL l r = Oct.text r ++ nextL l r) := rfl
  have z1 : (nextL l r).length ≤ 32 := by rw [nextL_length]; omega
  have z2 : (Oct.text r).length ≤ 1000000009 := by rw [Oct.text_length]; have := Oct.num_length_le r.length; omega
  go_enter Tryd.func18, Tryd.ntmps18
  go_wp2_with fail
  refine (rtext_any r w hr).mono ?_; rintro e w1 ⟨rfl, b1⟩
  have B1 := Lib.hid b1
  clear b1
  go_wp2_with fail
  refine (rnext_any l r hl hr w1).mono ?_; rintro e w2 ⟨rfl, b2⟩
  go_wp2_with fail
  go_ret
  exact ⟨congrArg (fun l : List UInt8 => Ending.returned (.string ⟨l.toArray⟩)) HF.out.symm, below_more B1.out b2 B1.out.size⟩

set_option maxRecDepth 20000 in
set_option maxHeartbeats 4000000 in
theorem rframes_any (v : Value) (ls : List (List UInt8)) (w : World) (hv : IsStrs w v ls) (hb : total ls + 41 * ls.length < 1000000000) (hbig : ∀ r ∈ ls, r.length < 1000000000) :
    Calls Tryd.prog 20 #[v] w fun e w' => e = .returned (tup3s (framesR ls)) ∧ Below w.heap.size w w' := by
  obtain ⟨a, cap, rfl, hn, hs⟩ := hv.at
  have HS := Lib.hid hs
  have HBIG := Lib.hid hbig
  unfold maxLen at hn
  clear hv hs hbig
  go_enter Tryd.func20, Tryd.ntmps20
  go_wp2_with fail
  refine (rfirst_any w).mono ?_; rintro e w1 ⟨rfl, b1⟩
  have B1 := Lib.hid b1
  clear b1
  go_wp2_with fail
  go_loopw [5, 6, 7] (fun x y i wr => ∃ k : Nat, k ≤ ls.length ∧ i = .int .i64 k ∧ Hid ((ls.take k).all fits = true) ∧ ∃ t h : List UInt8, x = .string ⟨t.toArray⟩ ∧ y = .string ⟨h.toArray⟩ ∧ Hid (t = framesL zlink (ls.take k)) ∧ Hid (h = headL zlink (ls.take k)) ∧ Hid (Below w.heap.size w wr)) (fun _ _ i _ => ls.length - (intOf i).toNat)
  case atStart => exact ⟨0, by omega, rfl, rfl, [], zlink, rfl, rfl, rfl, rfl, B1⟩
  case round =>
    obtain ⟨k, hk, rfl, HQ, t, h, rfl, rfl, HT, HH, HB⟩ := hrel
    by_cases hlt : k < ls.length
    · obtain ⟨b, off, rfl, hbl, hc⟩ := HS.out k hlt
      have HBL := Lib.hid hbl
      have HC := Lib.hid hc
      have hki : (k : Int) < ls.length := by omega
      have hcw : wr.cell? ⟨b, off + k, none⟩ = some (.string ⟨(ls[k]).toArray⟩) := (HB.out.cell (p := ⟨b, off + k, none⟩) hbl).trans hc
      have hrb := HBIG.out _ (List.getElem_mem hlt)
      by_cases hA : 8192 < (ls[k]).length
      · have hA2 : (8192 : Int) < (ls[k]).length := by omega
        have HF : Hid (framesR ls = ([], [], 5)) := by
          show _ = _
          unfold framesR chk
          rw [if_neg]
          rw [if_neg]
          · omega
          · intro h
            have := List.all_eq_true.1 h _ (List.getElem_mem hlt)
            unfold fits at this
            rw [decide_eq_true_iff] at this
            omega
        go_wp2_with fail
        go_ret3
        exact ⟨congrArg (fun p => Ending.returned (tup3s p)) HF.out.symm, HB.out⟩
      · have hA2 : ((ls[k]).length : Int) ≤ 8192 := by omega
        have HQ2 := Lib.hid (all_next ls k hlt HQ.out (by omega))
        have HT2 := Lib.hid (framesL_next ls zlink k hlt)
        have HH2 := Lib.hid (headL_next ls zlink k hlt)
        have hle := framesL_le (ls.take k) zlink
        have hta := total_at ls k hlt
        have htt := total_take ls (k + 1)
        have htl : (ls.take k).length = k := by rw [List.length_take]; omega
        rw [htl] at hle
        have HHL : Hid (h.length = 32) := by rw [HH.out]; exact headL_length _ _ zlink_length
        have hfl := frameL_le h ls[k]
        have htb : t.length ≤ total (ls.take k) + 41 * k := by rw [HT.out]; exact hle
        rw [← HT.out] at HT2
        rw [← HH.out] at HT2 HH2
        clear hc hle htl hbl
        generalize ls[k] = r at *
        have z1 : t.length ≤ 1000000000 := by omega
        have z2 : (frameL h r).length ≤ 10000 := by omega
        clear hta htt hfl htb hA
        go_wp2_with fail
        refine (rframe_any h r (by have := HHL.out; omega) hrb wr).mono ?_; rintro e w5 ⟨rfl, b5⟩
        have hcw5 : w5.cell? ⟨b, off + k, none⟩ = some (.string ⟨r.toArray⟩) := ((below_more HB.out b5 HB.out.size).cell (p := ⟨b, off + k, none⟩) HBL.out).trans HC.out
        have B5 := Lib.hid (below_more HB.out b5 HB.out.size)
        clear b5 hcw
        go_wp2_with fail
        refine (rnext_any h r (by have := HHL.out; omega) hrb w5).mono ?_; rintro e w6 ⟨rfl, b6⟩
        have B6 := Lib.hid (below_more B5.out b6 B5.out.size)
        clear b6
        go_wp2_with fail
        go_roundw
        case rel => exact ⟨k + 1, by omega, by go_num, HQ2, t ++ frameL h r, nextL h r, rfl, rfl, Lib.hid HT2.out.symm, Lib.hid HH2.out.symm, B6⟩
        case measure => simp [intOf]; omega
    · obtain rfl : k = ls.length := by omega
      rw [List.take_length] at HT HH HQ
      have HF : Hid (framesR ls = (framesL zlink ls, headL zlink ls, 0)) := by
        show _ = _
        unfold framesR chk
        rw [if_pos]
        rw [if_pos HQ.out]
      go_wp2_with fail
      go_ret3
      exact ⟨congrArg (fun p => Ending.returned (tup3s p)) (show (t, h, 0) = framesR ls by rw [HF.out, HT.out, HH.out]), HB.out⟩
end Go.Proofs.YtdmoolfalcdbjaaDoor

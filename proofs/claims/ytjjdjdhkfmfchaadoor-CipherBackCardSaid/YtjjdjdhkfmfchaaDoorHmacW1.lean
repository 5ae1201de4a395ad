/- The walks of hmac's closures and of with. -/
import Derived.Test.YtjjdjdhkfmfchaaDoorMakeB
import Derived.Test.YtjjdjdhkfmfchaaDoorShaW5
import Derived.RangeFuncRecord
namespace Go.Proofs.YtjjdjdhkfmfchaaDoor
set_option linter.unusedVariables false
set_option linter.unusedSimpArgs false
open Go.RowKit Sha

theorem keyturn_any (p : Nat) (c n : UInt8) (w : World) (hp : w.cell? ⟨p, 0, none⟩ = some (.int .u8 (by8 n))) :
    Calls Tryd.prog 27 #[.int .u8 (by8 c), .pointer (some ⟨p, 0, none⟩)] w fun e w' => e = .returned (.int .u8 (by8 (c ^^^ n))) ∧ w = w' := by
  have hx := by8_xor c n
  go_enter Tryd.func27, Tryd.ntmps27
  go_wp2
  go_ret
  exact ⟨rfl, rfl⟩

theorem keyturner_any (n : UInt8) (w : World) :
    Calls Tryd.prog 26 #[.int .u8 (by8 n)] w fun e w' => e = .returned (.func (.func 27) #[] #[.pointer (some ⟨w.heap.size, 0, none⟩)]) ∧ w' = w.alloc (.cells #[.int .u8 (by8 n)] 5) := by
  go_enter Tryd.func26, Tryd.ntmps26
  go_wp2
  go_ret
  exact ⟨rfl, rfl⟩

theorem alloc2_new (w : World) (a b : Obj) : ((w.alloc a).alloc b).heap[w.heap.size + 1]? = some b := by
  have := World.alloc_heap_new (w.alloc a) b
  rwa [World.size_alloc] at this
theorem pad_eq (k : List UInt8) : k ++ (zrow 64).drop k.length = pad64 k := by unfold zrow pad64; rw [List.drop_replicate]
/-- what with answers: a sum to which m was written. -/
def Began (w : World) (m : List UInt8) (e : Ending) (w' : World) : Prop :=
  ∃ h, e = .returned (.agg #[.pointer (some ⟨h, 0, none⟩)]) ∧ Holds w' h m ∧ w.heap.size ≤ h ∧ Below w.heap.size w w'

set_option maxRecDepth 20000 in
set_option maxHeartbeats 4000000 in
theorem with_any (key : List UInt8) (hk : key.length ≤ 64) (p : Nat) (n : UInt8) (w : World) (hp : w.cell? ⟨p, 0, none⟩ = some (.int .u8 (by8 n))) (hkl : KLaid w) :
    Calls Tryd.prog 28 #[.string ⟨key.toArray⟩, .func (.func 27) #[] #[.pointer (some ⟨p, 0, none⟩)]] w (Began w (xorAll (pad64 key) n)) := by
  have HK := Lib.hid hkl
  have HP := Lib.hid hp
  have HPL := Lib.hid (World.block_lt_of_cell? w _ hp)
  have HL := Lib.hid hk
  clear hkl hp hk
  have hmk : ∀ W : World, (Instr.makeSlice 31 (.int .i64 64) (.int .i64 64)).run Tryd.prog W = .ok (.slice (some ⟨W.heap.size, 0, none⟩) 64 64) (W.alloc (.cells (brow (zrow 64)) 5)) := run_make_bytes 64 (by omega)
  go_enter Tryd.func28, Tryd.ntmps28
  go_wp2_with (refine wpList_copy_row (o := ⟨some 11, _, _, _, _, _⟩) rfl (.tmp 9) (.tmp 10) rfl (w.heap.size + 1) 64 64 key (zrow 64) rfl rfl (zrow_length 64) HL.out (alloc2_new w _ _) ?_; intro W1 hW1 hG1)
  rw [pad_eq] at hW1
  have hlen := pad64_length HL.out
  have HB4 : Hid (W1.heap[w.heap.size]? = some (.cells #[.pointer none] 45 (0, 0))) := by
    show _ = _
    rw [hG1.block w.heap.size (by simp only [World.size_alloc]; omega) (fun e => by have := Option.some.inj e; omega)]
    exact (Below.heap_alloc _ _ _ (by simp)).trans (World.alloc_heap_new w _)
  have HB : Hid (Below w.heap.size w W1) := (((Below.refl _ _).alloc (Nat.le_refl _) _).alloc (by simp) _).grown hG1 (by simp; omega) (fun k hk => by have := Option.some.inj hk; omega)
  have HW1 := Lib.hid hW1
  clear hW1 hG1
  generalize pad64 key = m at *
  have HLEN := Lib.hid hlen
  clear hlen hmk
  go_loopw [14] (fun i wr => ∃ k : Nat, k ≤ 64 ∧ i = .int .i64 k ∧ Hid (wr.heap[w.heap.size + 1]? = some (.cells (brow (xorAll (m.take k) n ++ m.drop k)) 5 (0, 0))) ∧ Hid (wr.heap[w.heap.size]? = some (.cells #[.pointer none] 45 (0, 0))) ∧ Hid (Below w.heap.size w wr)) (fun i _ => 64 - (intOf i).toNat)
  case atStart => exact ⟨0, by omega, rfl, HW1, HB4, HB⟩
  case round =>
    obtain ⟨k, hk, rfl, HG, HR, HBB⟩ := hrel
    by_cases hlt : k < 64
    · have hkm : k < m.length := by have := HLEN.out; omega
      have hkc : k < (xorAll (m.take k) n ++ m.drop k).length := by rw [List.length_append, xorAll_length, List.length_take, List.length_drop]; have := HLEN.out; omega
      have hc := brow_cell HG.out k hkc
      rw [xor_at m n k hkm] at hc
      have hf : wr.frozen? ⟨w.heap.size + 1, k, none⟩ = false := frozen_of_row wr _ k _ _ HG.out
      have hki : (k : Int) < 64 := by omega
      have HX := Lib.hid (xor_next m n k hkm)
      have HPW : Hid (wr.cell? ⟨p, 0, none⟩ = some (.int .u8 (by8 n))) := (HBB.out.cell (p := ⟨p, 0, none⟩) HPL.out).trans HP.out
      have hlo := by8_lo m[k]
      have hhi := by8_hi m[k]
      clear hkc
      generalize m[k] = x at *
      go_wp2_with (go_at_call 27; refine (keyturn_any p x n wr HPW.out).mono ?_; rintro e w2 ⟨rfl, rfl⟩)
      go_roundw
      case rel => exact ⟨k + 1, by omega, by go_num, Lib.hid (by rw [brow_setCell HG.out, HX.out]), Lib.hid (by rw [heap_setCell_other _ _ _ _ (by simp)]; exact HR.out), Lib.hid (HBB.out.setCell (by simp) _)⟩
      case measure => simp [intOf]; omega
    · obtain rfl : k = 64 := by omega
      rw [List.take_of_length_le (by have := HLEN.out; omega), List.drop_eq_nil_of_le (by have := HLEN.out; omega), List.append_nil] at HG
      have HXL : Hid ((xorAll m n).length = 64) := by show _ = _; rw [xorAll_length]; exact HLEN.out
      generalize xorAll m n = y at *
      go_wp2_with fail
      refine (new_some wr).mono ?_; rintro e w2 ⟨rfl, h2, b2, s2⟩
      have H2 := Lib.hid h2
      have B2 := Lib.hid (HBB.out.trans (b2.mono HBB.out.size))
      have hG2 : w2.heap[w.heap.size + 1]? = some (.cells (brow y) 5 (0, 0)) := (b2.block _ (lt_of_block HG.out)).trans HG.out
      have HR2 : Hid (w2.heap[w.heap.size]? = some (.cells #[.pointer none] 45 (0, 0))) := (b2.block _ (lt_of_block HR.out)).trans HR.out
      have hcv := conv_brow (cap := 64) HXL.out hG2
      have HLT := Lib.hid (lt_of_block HG.out)
      have HGK := Lib.hid (show wr.heap.size ≠ 0 by have := (HK.out.below HBB.out).lt; omega)
      clear h2 b2 s2 hG2 HG HR
      go_wp2_with fail
      refine (write_some wr.heap.size [] y w2 H2.out (HK.out.below B2.out) HGK.out (by have := HXL.out; simp; omega)).mono ?_; rintro e w3 ⟨rfl, h3, g3⟩
      rw [List.nil_append] at h3
      have HR3 : w3.heap[w.heap.size]? = some (.cells #[.pointer none] 45 (0, 0)) := by
        rw [g3.block _ (lt_of_block HR2.out) (fun e => by have := Option.some.inj e; have := HLT.out; omega)]
        exact HR2.out
      have hc3 : w3.cell? ⟨w.heap.size, 0, none⟩ = some (.pointer none) := by rw [cell_of_row _ _ _ _ _ _ HR3]; rfl
      have hf3 : w3.frozen? ⟨w.heap.size, 0, none⟩ = false := frozen_of_row _ _ _ _ _ HR3
      have H3 := Lib.hid h3
      have B3 := Lib.hid (B2.out.grown g3 B2.out.size (fun k hk => by have := Option.some.inj hk; have := HLT.out; omega))
      have HS3 := Lib.hid (heap_setCell_same w3 w.heap.size 0 _ _ (.pointer (some ⟨wr.heap.size, 0, none⟩)) HR3)
      clear h3 g3 HR3 hcv
      go_wp2_with fail
      refine bodyPost_ret (v := .agg #[.pointer (some ⟨wr.heap.size, 0, none⟩)]) ?_ rfl ⟨_, rfl, ?_, ?_, ?_⟩
      · have hcc : (w3.setCell ⟨w.heap.size, 0, none⟩ (.pointer (some ⟨wr.heap.size, 0, none⟩))).cell? ⟨w.heap.size, 0, none⟩ = some (.pointer (some ⟨wr.heap.size, 0, none⟩)) := by rw [cell_of_row _ _ _ _ _ _ HS3.out]; rfl
        simp [results, Tryd.results28, go_sem, hcc]
      · exact H3.out.kept (heap_setCell_other _ _ _ _ (by have := HLT.out; simp; omega))
      · exact Nat.le_of_lt (Nat.lt_of_succ_lt HLT.out)
      · exact B3.out.setCell (by simp) _
end Go.Proofs.YtjjdjdhkfmfchaaDoor

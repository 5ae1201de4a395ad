/- The reference's Sum and Hex. -/
import Derived.Test.YtjjdjdhkfmfchaaDoorShaR3
import Derived.Test.YtjjdjdhkfmfchaaDoorShaR4
import Derived.Test.YtjjdjdhkfmfchaaDoorBytesStep
import Derived.BigRegion
namespace Go.Proofs.YtjjdjdhkfmfchaaDoor
set_option linter.unusedVariables false
set_option linter.unusedSimpArgs false
open Go.RowKit Sha
attribute [local go_sem] ByteArray.extract_mk

theorem build_H0 (w : World) : (Instr.build 59 #[(0, .int .u32 1779033703), (1, .int .u32 3144134277), (2, .int .u32 1013904242), (3, .int .u32 2773480762), (4, .int .u32 1359893119), (5, .int .u32 2600822924), (6, .int .u32 528734635), (7, .int .u32 1541459225)]).run Tryd.prog w = .ok (.agg (scells H0)) w := by kernel_rfl

/-- the cell of a row of four bytes that was just laid. -/
theorem four_cell (w : World) (x : UInt32) : ∀ i (h : i < (wbytes x).length), (w.alloc (.cells #[.int .u8 (by8 (x >>> 24).toUInt8), .int .u8 (by8 (x >>> 16).toUInt8), .int .u8 (by8 (x >>> 8).toUInt8), .int .u8 (by8 x.toUInt8)] 5)).cell? ⟨w.heap.size, i, none⟩ = some (.int .u8 (by8 (wbytes x)[i])) := by
  intro i hi
  rw [cell_of_row _ _ i _ _ _ (heap_alloc_new w _)]
  have : i < 4 := hi
  obtain rfl | rfl | rfl | rfl : i = 0 ∨ i = 1 ∨ i = 2 ∨ i = 3 := by omega
  all_goals rfl

set_option maxRecDepth 20000 in
set_option maxHeartbeats 8000000 in
theorem refSum_any (s : List UInt8) (hl : s.length < 1000000000000) (w : World) :
    Calls Tryd.prog 34 #[.string ⟨s.toArray⟩] w fun e w' => e = .returned (.string ⟨(sha s).toArray⟩) ∧ Below w.heap.size w w' := by
  have hz8 := zero_8
  rw [zeros_scells] at hz8
  go_enter Tryd.func34, Tryd.ntmps34
  go_wp2_with (first
    | (go_at_call 38; refine (padded_any s hl w).mono ?_; rintro e w1 ⟨rfl, b1⟩; have B1 := Lib.hid b1; clear b1)
    | (refine wpList_build_as (o := ⟨some 10, _, _, _, _, _⟩) rfl 59 _ rfl (.agg (scells H0)) (fun w => by kernel_rfl) ?_)
    | (refine wpList_store_row (o := ⟨none, .store 59 (.tmp 4) (.tmp 10), _, _, _, _⟩) rfl 59 (.tmp 4) (.tmp 10) rfl w1.heap.size rfl (scells H0) (scells ⟨0, 0, 0, 0, 0, 0, 0, 0⟩) rfl 59 (heap_alloc_new w1 _) rfl size_8 (scells_one _) ?_; rw [alloc_setRow]; refine wpList_named (fun W4 hW4 => ?_); have H4 := Lib.hid hW4; clear hW4))
  have h0 : W4.heap[w1.heap.size]? = some (.cells (scells H0) 59 (0, 0)) := by rw [H4.out]; exact heap_alloc_new w1 _
  have hb : Below w.heap.size w W4 := by rw [H4.out]; exact B1.out.alloc B1.out.size _
  have H00 := Lib.hid h0
  have HB0 := Lib.hid hb
  have HSZ := Lib.hid B1.out.size
  clear h0 hb H4 B1
  generalize w1.heap.size = B at *
  have hpl := padded_whole s
  have hpl2 : (padded s).length < 1000000001000 := by rw [padded_length]; unfold zer; omega
  obtain ⟨K, hK⟩ : ∃ K, (padded s).length = 64 * K := ⟨(padded s).length / 64, by omega⟩
  have HSHA : Hid (sha s = wsum (stA (padded s) K).list) := by
    show _ = _
    unfold sha
    rw [hK, Nat.mul_div_cancel_left K (by omega)]
  generalize padded s = p at *
  have HPL := Lib.hid hpl2
  have HK := Lib.hid hK
  clear hpl hpl2 hz8
  go_loopw [5] (fun i wr => ∃ k : Nat, k ≤ K ∧ i = .int .i64 ((64 * k : Nat) : Int) ∧ wr.heap[B]? = some (.cells (scells (stA p k)) 59 (0, 0)) ∧ Hid (Below B W4 wr)) (fun i _ => 64 * K - (intOf i).toNat)
  case atStart => exact ⟨0, by omega, rfl, H00.out, Below.refl _ _⟩
  case round =>
    obtain ⟨k, hk, rfl, hX, HB⟩ := hrel
    by_cases hlt : k < K
    · obtain ⟨lo, hlo⟩ : ∃ lo, lo = 64 * k := ⟨_, rfl⟩
      obtain ⟨hi, hhi⟩ : ∃ hi, hi = 64 * k + 64 := ⟨_, rfl⟩
      rw [← hlo]
      have hkb := HPL.out
      have hkk := HK.out
      have e1 : IntKind.i64.wrap ((lo : Int) + 64) = (hi : Int) := by rw [IntWalk.i64_in _ (by omega)]; omega
      have i1 : lo < p.length := by omega
      have i2 : (lo : Int) < (p.length : Int) := by omega
      have i3 : hi ≤ p.length := by omega
      have i4 : (hi : Int) ≤ (p.length : Int) := by omega
      have i5 : lo ≤ hi := by omega
      have i7 : hi ≤ 64 * K := by omega
      have i8 : (hi : Int) ≤ 64 * (K : Int) := by omega
      have i9 : (lo : Int) < 64 * (K : Int) := by omega
      have i6 : (lo : Int) ≤ (hi : Int) := by omega
      have hbk : List.take (hi - lo) (List.drop lo p) = blk p k := by
        unfold blk
        rw [hlo, hhi, Nat.add_sub_cancel_left]
      have hbl : (blk p k).length = 64 := by unfold blk; rw [List.length_take, List.length_drop]; omega
      have HN := Lib.hid (show stA p (k + 1) = comp (stA p k) (blk p k) from rfl)
      obtain ⟨st, hst⟩ : ∃ st, stA p k = st := ⟨_, rfl⟩
      rw [hst] at hX HN
      have y0 : wr.drew.cell? ⟨B, 0, none⟩ = some (.int .u32 (u st.a)) := cell_of_row wr _ 0 _ _ _ hX
      have y1 : wr.drew.cell? ⟨B, 1, none⟩ = some (.int .u32 (u st.b)) := cell_of_row wr _ 1 _ _ _ hX
      have y2 : wr.drew.cell? ⟨B, 2, none⟩ = some (.int .u32 (u st.c)) := cell_of_row wr _ 2 _ _ _ hX
      have y3 : wr.drew.cell? ⟨B, 3, none⟩ = some (.int .u32 (u st.d)) := cell_of_row wr _ 3 _ _ _ hX
      have y4 : wr.drew.cell? ⟨B, 4, none⟩ = some (.int .u32 (u st.e)) := cell_of_row wr _ 4 _ _ _ hX
      have y5 : wr.drew.cell? ⟨B, 5, none⟩ = some (.int .u32 (u st.f)) := cell_of_row wr _ 5 _ _ _ hX
      have y6 : wr.drew.cell? ⟨B, 6, none⟩ = some (.int .u32 (u st.g)) := cell_of_row wr _ 6 _ _ _ hX
      have y7 : wr.drew.cell? ⟨B, 7, none⟩ = some (.int .u32 (u st.h)) := cell_of_row wr _ 7 _ _ _ hX
      have HX := Lib.hid hX
      have HBL := Lib.hid hbl
      have HLO := Lib.hid hlo
      have HHI := Lib.hid hhi
      clear hX hst hbl hlo hhi hkb hkk
      generalize blk p k = bl at *
      go_wp2_with fail
      refine wp_region_still_tail 6 (by kernel_rfl) (by kernel_rfl) ?_
      simp only [List.take_succ_cons, List.take_zero, List.drop_succ_cons, List.drop_zero]
      obtain ⟨W1, hW1⟩ : ∃ W : World, W = wr.drew := ⟨_, rfl⟩
      change wpStill _ _ wr.drew _ _ _
      rw [← hW1] at y0 y1 y2 y3 y4 y5 y6 y7 ⊢
      have HW1 := Lib.hid hW1
      clear hW1
      repeat (refine wpStill_step (fun K hK => ?_); go_simp; refine hK _ ?_; clear hK K)
      refine wpStill_nil ?_
      change wpList _ _ _ _ _ wr.drew
      rw [← HW1.out]
      clear y0 y1 y2 y3 y4 y5 y6 y7
      have HW1B := Lib.hid (show W1.heap[B]? = some (.cells (scells st) 59 (0, 0)) by rw [HW1.out]; exact HX.out)
      go_wp2_with (first
        | (go_at_call 39; refine (took_any st bl HBL.out W1).mono ?_; rintro e w2 ⟨rfl, b2⟩; have B2 := Lib.hid b2; have HX2 := Lib.hid ((b2.block B (lt_of_block HW1B.out)).trans HW1B.out); clear b2)
        | (refine wpList_store_row (o := ⟨none, .store 59 (.tmp 4) (.tmp 23), _, _, _, _⟩) rfl 59 (.tmp 4) (.tmp 23) rfl B rfl (scells (comp st bl)) (scells st) rfl 59 HX2.out (by rw [scells_size, scells_size]) (by rw [scells_size]; exact size_8) (scells_one _) ?_; refine wpList_named (fun W5 hW5 => ?_); have H5 := Lib.hid hW5; clear hW5))
      refine ⟨⟨k + 1, by omega, ?_, ?_, ?_⟩, ?_⟩
      · rw [HHI.out]; rfl
      · rw [H5.out, HN.out]; exact setRow_heap _ _ _ _ _ _ HX2.out
      · rw [H5.out]
        refine ((Below.trans ?_ (B2.out.mono (Nat.le_of_lt (lt_of_block HW1B.out)))).grown (grown_setRow _ _ _) (Nat.le_of_lt (lt_of_block HX2.out)) (fun k hk => Nat.le_of_eq (Option.some.inj hk)) : Below B W4 _)
        rw [HW1.out]
        exact HB.out.drew
      · have h1 := HLO.out
        have h2 := HHI.out
        simp [intOf]; omega
    · obtain rfl : k = K := by omega
      obtain ⟨st, hst⟩ : ∃ st, stA p k = st := ⟨_, rfl⟩
      rw [hst] at hX HSHA
      have HX := Lib.hid hX
      clear hX hst
      rw [show ((64 * k : Nat) : Int) = 64 * (k : Int) by omega]
      go_wp2_with fail
      go_loopw [6, 7] (fun v i wr => ∃ j : Nat, j ≤ 8 ∧ i = .int .i64 (j : Int) ∧ Hid (OwnB wr (B + 1) v (wsum (st.list.take j))) ∧ Hid (wr.heap[B]? = some (.cells (scells st) 59 (0, 0))) ∧ Hid (Below B W4 wr)) (fun _ i _ => (8 - intOf i).toNat)
      case atStart => exact ⟨0, by omega, rfl, own_nil _ _, HX, HB⟩
      case round =>
        obtain ⟨j, hj, rfl, HO, HC, HB3⟩ := hrel
        by_cases hj8 : j < 8
        · have hi8 : (j : Int) < 8 := by omega
          have hi0 : (0 : Int) ≤ (j : Int) := by omega
          have HWL : Hid ((wsum (st.list.take j)).length + 4 ≤ 1099511627776) := by show _ ≤ _; rw [wsum_length, List.length_take, St.list_length]; omega
          have HNX := Lib.hid (wsum_next st.list j (by rw [St.list_length]; exact hj8))
          have hcl : wr.cell? ⟨B, j, none⟩ = some (.int .u32 (u (st.list.getD j 0))) := by rw [cell_of_row _ _ j _ _ _ HC.out, scells_list st j hj8]
          generalize st.list.getD j 0 = x at *
          have f1 : u x / (16777216 : Int) % (256 : Int) = by8 (x >>> 24).toUInt8 := by rw [show u x / (16777216 : Int) = u (x >>> 24) from u_shr x 24 (by omega), ← byte_of, IntKind.wrap_u8]
          have f2 : u x / (65536 : Int) % (256 : Int) = by8 (x >>> 16).toUInt8 := by rw [show u x / (65536 : Int) = u (x >>> 16) from u_shr x 16 (by omega), ← byte_of, IntKind.wrap_u8]
          have f3 : u x / (256 : Int) % (256 : Int) = by8 (x >>> 8).toUInt8 := by rw [show u x / (256 : Int) = u (x >>> 8) from u_shr x 8 (by omega), ← byte_of, IntKind.wrap_u8]
          have f4 : u x % (256 : Int) = by8 x.toUInt8 := by rw [← byte_of, IntKind.wrap_u8]
          have g1 : IntKind.u8.wrap (u x / (16777216 : Int)) = by8 (x >>> 24).toUInt8 := by rw [show u x / (16777216 : Int) = u (x >>> 24) from u_shr x 24 (by omega), ← byte_of]
          have g2 : IntKind.u8.wrap (u x / (65536 : Int)) = by8 (x >>> 16).toUInt8 := by rw [show u x / (65536 : Int) = u (x >>> 16) from u_shr x 16 (by omega), ← byte_of]
          have g3 : IntKind.u8.wrap (u x / (256 : Int)) = by8 (x >>> 8).toUInt8 := by rw [show u x / (256 : Int) = u (x >>> 8) from u_shr x 8 (by omega), ← byte_of]
          have g4 : IntKind.u8.wrap (u x) = by8 x.toUInt8 := by rw [← byte_of]
          have hne := World.new_ne wr _ hcl
          have HLT := Lib.hid (lt_of_block HC.out)
          go_wp2_with fail
          go_region_held3 (fun w' => w'.cell? ⟨B, j, none⟩ = some (.int .u32 (u x))) (first | go_keep | assumption) (first | (refine step_append_bytes (by rfl) (.tmp 28) (.tmp 48) (by rfl) (B + 1) _ _ (by rfl) (HO.out.kept ((below_drewN (Below.refl _ _) 1).alloc (Nat.le_refl _) _)) wr.heap.size 4 4 (wbytes x) (by rfl) rfl (four_cell wr.drew x) HWL.out (Nat.le_trans HLT.out (by simp)) ?_; intro v2 w2 h2 s2 b2; have O2 := Lib.hid h2; have h3 := ((b2 (B + 1) wr ((below_drewN (Below.refl _ _) 1).alloc HLT.out _) (Nat.le_refl _)).cell (p := ⟨B, j, none⟩) (Nat.lt_succ_self _)).trans hcl; have B2 := Lib.hid b2; clear h2 b2))
          all_goals (rw [HNX.out] at O2; go_wp2)
          all_goals have B3 := B2.out (B + 1) wr ((below_drewN (Below.refl _ _) 1).alloc HLT.out _) (Nat.le_refl _)
          all_goals go_roundw
          case rel => exact ⟨j + 1, by omega, by go_num, O2, Lib.hid ((B3.block B (Nat.lt_succ_self _)).trans HC.out), Lib.hid (HB3.out.trans (B3.mono (Nat.le_succ _)))⟩
          case measure => simp [intOf]; omega
        · obtain rfl : j = 8 := by omega
          have hfin : Hid (wsum (st.list.take 8) = sha s) := HSHA.out.symm
          rw [hfin.out] at HO
          have hcv := HO.out.conv
          go_wp2
          go_ret
          exact ⟨rfl, HB0.out.trans (HB3.out.mono HSZ.out)⟩
end Go.Proofs.YtjjdjdhkfmfchaaDoor

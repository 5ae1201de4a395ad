/- The reference's words of a block. -/
import Derived.Test.YtjjdjdhkfmfchaaDoorShaR1
namespace Go.Proofs.YtjjdjdhkfmfchaaDoor
set_option linter.unusedVariables false
set_option linter.unusedSimpArgs false
open Go.RowKit Sha
theorem nat_u32 (c : UInt8) : IntKind.u32.wrap (c.toNat : Int) = u c.toUInt32 := by8_u32 c
theorem shl24 (x : UInt32) : IntKind.u32.wrap (u x * 16777216) = u (x <<< 24) := u_shl x 24 (by omega)
theorem shl16 (x : UInt32) : IntKind.u32.wrap (u x * 65536) = u (x <<< 16) := u_shl x 16 (by omega)
theorem shl8 (x : UInt32) : IntKind.u32.wrap (u x * 256) = u (x <<< 8) := u_shl x 8 (by omega)
theorem get_mk (l : List UInt8) (i : Nat) (h : i < (ByteArray.mk l.toArray).size) : (ByteArray.mk l.toArray)[i]'h = l[i]'(by simpa [ByteArray.size] using h) := rfl
attribute [local go_sem] u_or u_xor u_and u_add nat_u32 shl24 shl16 shl8 get_mk

theorem wd_code (b : List UInt8) (t : Nat) (h : 4 * t + 4 ≤ b.length) :
    (b[4 * t]'(by omega)).toUInt32 <<< 24 ||| (b[4 * t + 1]'(by omega)).toUInt32 <<< 16 ||| (b[4 * t + 2]'(by omega)).toUInt32 <<< 8 ||| (b[4 * t + 3]'(by omega)).toUInt32 = wd b t := by
  have g : ∀ k (h : k < b.length), b.getD k 0 = b[k] := fun k h => by simp [List.getD_eq_getElem?_getD, h]
  simp only [wd, wp, Nat.add_zero]
  rw [g (4 * t) (by omega), g (4 * t + 1) (by omega), g (4 * t + 2) (by omega), g (4 * t + 3) (by omega)]
  generalize (b[4 * t]'(by omega)).toUInt32 = x0
  generalize (b[4 * t + 1]'(by omega)).toUInt32 = x1
  generalize (b[4 * t + 2]'(by omega)).toUInt32 = x2
  generalize (b[4 * t + 3]'(by omega)).toUInt32 = x3
  rw [UInt32.shiftLeft_or, UInt32.shiftLeft_or, UInt32.shiftLeft_or, UInt32.shiftLeft_or, UInt32.shiftLeft_or, UInt32.shiftLeft_or]
  have a2 : ∀ x : UInt32, (x <<< 8) <<< 8 = x <<< 16 := fun x => (UInt32.shiftLeft_add (a := x) (b := 8) (c := 8) (by decide) (by decide) (by decide)).symm
  have a3 : ∀ x : UInt32, (x <<< 16) <<< 8 = x <<< 24 := fun x => (UInt32.shiftLeft_add (a := x) (b := 16) (c := 8) (by decide) (by decide) (by decide)).symm
  simp [a2, a3]

/-- the words of which those ahead of t are laid. -/
def pws (bl : List UInt8) (t : Nat) : List UInt32 := (List.range 64).map fun j => if j < t then W bl j else 0
theorem pws_length (bl : List UInt8) (t : Nat) : (pws bl t).length = 64 := by simp [pws]
theorem pws_zero (bl : List UInt8) : pws bl 0 = z64 := by simp [pws, z64]; rfl
theorem pws_at (bl : List UInt8) (t j : Nat) (h : j < t) (hj : j < 64) : (pws bl t)[j]'(by rw [pws_length]; exact hj) = W bl j := by simp [pws, h]
theorem pws_set (bl : List UInt8) (t : Nat) (ht : t < 64) : (pws bl t).set t (W bl t) = pws bl (t + 1) := by
  apply List.ext_getElem
  · simp [pws]
  · intro i h1 h2
    have hi : i < 64 := by simpa [pws] using h2
    rw [List.getElem_set]
    split
    · subst i; simp [pws]
    · rename_i hne
      simp only [pws, List.getElem_map, List.getElem_range]
      by_cases h : i < t
      · rw [if_pos h, if_pos (by omega)]
      · rw [if_neg h, if_neg (by omega)]

set_option maxRecDepth 20000 in
set_option maxHeartbeats 4000000 in
theorem words_any (bl : List UInt8) (h : bl.length = 64) (w : World) :
    Calls Tryd.prog 41 #[.string ⟨bl.toArray⟩] w fun e w' => e = .returned (.agg (ucells (pws bl 64))) ∧ Below w.heap.size w w' := by
  have hz := zero_64
  go_enter Tryd.func41, Tryd.ntmps41
  go_wp2
  clear hz
  obtain ⟨wz, hwz⟩ : ∃ wz, wz = (w.alloc (.cells (ucells z64) 66)).alloc (.cells (ucells z64) 66) := ⟨_, rfl⟩
  rw [← hwz]
  have hb0 : wz.heap[w.heap.size]? = some (.cells (ucells z64) 66 (0, 0)) := by
    rw [hwz, heap_alloc_old _ _ (by simp), heap_alloc_new]
  have hb1 : wz.heap[w.heap.size + 1]? = some (.cells (ucells z64) 66 (0, 0)) := by
    rw [hwz]; exact heap_alloc2_new w _ _
  have hbl : Below w.heap.size w wz := by
    rw [hwz]; exact ((Below.refl _ _).alloc (Nat.le_refl _) _).alloc (by simp) _
  have hsz : w.heap.size + 1 ≤ wz.heap.size := by rw [hwz]; simp
  have Hb0 := Lib.hid hb0
  have Hb1 := Lib.hid hb1
  have Hbl := Lib.hid hbl
  have Hsz := Lib.hid hsz
  clear hb0 hb1 hbl hwz hsz
  go_loopw [4] (fun i wr => ∃ t : Nat, t ≤ 16 ∧ i = .int .i64 t ∧ wr.heap[w.heap.size + 1]? = some (.cells (ucells (pws bl t)) 66 (0, 0)) ∧ Below (w.heap.size + 1) wz wr) (fun i _ => 16 - (intOf i).toNat)
  case atStart => exact ⟨0, by omega, rfl, by rw [pws_zero]; exact Hb1.out, Below.refl _ _⟩
  case round =>
    obtain ⟨t, ht, rfl, hX, hB⟩ := hrel
    by_cases hlt : t < 16
    · obtain ⟨p0, hp0⟩ : ∃ p, p = 4 * t := ⟨_, rfl⟩
      obtain ⟨p1, hp1⟩ : ∃ p, p = 4 * t + 1 := ⟨_, rfl⟩
      obtain ⟨p2, hp2⟩ : ∃ p, p = 4 * t + 2 := ⟨_, rfl⟩
      obtain ⟨p3, hp3⟩ : ∃ p, p = 4 * t + 3 := ⟨_, rfl⟩
      have e0 : IntKind.i64.wrap (4 * (t : Int)) = (p0 : Int) := by rw [IntWalk.i64_in _ (by omega)]; omega
      have e1 : IntKind.i64.wrap ((p0 : Int) + 1) = (p1 : Int) := by rw [IntWalk.i64_in _ (by omega)]; omega
      have e2 : IntKind.i64.wrap ((p0 : Int) + 2) = (p2 : Int) := by rw [IntWalk.i64_in _ (by omega)]; omega
      have e3 : IntKind.i64.wrap ((p0 : Int) + 3) = (p3 : Int) := by rw [IntWalk.i64_in _ (by omega)]; omega
      have l0 : p0 < bl.length := by omega
      have l1 : p1 < bl.length := by omega
      have l2 : p2 < bl.length := by omega
      have l3 : p3 < bl.length := by omega
      have i0 : (p0 : Int) < 64 := by omega
      have i1 : (p1 : Int) < 64 := by omega
      have i2 : (p2 : Int) < 64 := by omega
      have i3 : (p3 : Int) < 64 := by omega
      have HW : Hid ((bl[p0]'l0).toUInt32 <<< 24 ||| (bl[p1]'l1).toUInt32 <<< 16 ||| (bl[p2]'l2).toUInt32 <<< 8 ||| (bl[p3]'l3).toUInt32 = W bl t) := by
        show _ = _
        rw [W_first bl t hlt, ← wd_code bl t (by omega)]
        simp only [hp0, hp1, hp2, hp3]
      have cs : ∀ W1 : World, W1 = wr.drew → ∃ o : Value, W1.cell? ⟨w.heap.size + 1, t, none⟩ = some o := by
        intro W1 h1
        subst h1
        exact ⟨_, (cell_of_row wr _ t _ _ _ hX).trans (ucells_at _ t (by rw [pws_length]; omega))⟩
      have fz : wr.frozen? ⟨w.heap.size + 1, t, none⟩ = false := frozen_of_row _ _ t _ _ hX
      have HS : Hid ((wr.setCell ⟨w.heap.size + 1, t, none⟩ (.int .u32 (u (W bl t)))).heap[w.heap.size + 1]? = some (.cells (ucells (pws bl (t + 1))) 66 (0, 0))) := by
        show _ = _
        rw [heap_setCell_same _ _ t _ _ _ hX, ucells_set, pws_set bl t (by omega)]
      have HB := Lib.hid hB
      clear hB hX hp0 hp1 hp2 hp3
      have t16 : (t : Int) < 16 := by omega
      have t64 : (t : Int) < 64 := by omega
      go_wp2_with fail
      refine wp_region_still_tail 31 (by kernel_rfl) (by kernel_rfl) ?_
      simp only [List.take_succ_cons, List.take_zero, List.drop_succ_cons, List.drop_zero]
      obtain ⟨W1, hW1⟩ : ∃ W : World, W = wr.drew := ⟨_, rfl⟩
      change wpStill _ _ wr.drew _ _ _
      rw [← hW1]
      obtain ⟨vo, y0⟩ := cs W1 hW1
      have yf : W1.frozen? ⟨w.heap.size + 1, t, none⟩ = false := by rw [hW1]; exact fz
      have HW1 := Lib.hid hW1
      clear hW1 cs fz
      repeat (refine wpStill_step (fun K hK => ?_); go_simp; refine hK _ ?_; clear hK K)
      refine wpStill_nil ?_
      change wpList _ _ _ _ _ wr.drew
      rw [← HW1.out]
      go_wp2_with fail
      rw [HW.out]
      have HS2 : Hid ((W1.setCell ⟨w.heap.size + 1, t, none⟩ (.int .u32 (u (W bl t)))).heap[w.heap.size + 1]? = some (.cells (ucells (pws bl (t + 1))) 66 (0, 0)) ∧ Below (w.heap.size + 1) wz (W1.setCell ⟨w.heap.size + 1, t, none⟩ (.int .u32 (u (W bl t))))) := by
        rw [HW1.out]
        exact ⟨HS.out, (HB.out.drew).setCell (Nat.le_refl _) _⟩
      go_wp2_with fail
      go_roundw
      case rel => exact ⟨t + 1, by omega, by go_num, HS2.out.1, HS2.out.2⟩
      case measure => simp [intOf]; omega
    · obtain rfl : t = 16 := by omega
      rw [show ((16 : Nat) : Int) = 16 from rfl]
      have HX := Lib.hid hX
      have HB := Lib.hid hB
      clear hX hB
      go_wp2_with fail
      go_loopw [5] (fun i wr => ∃ t : Nat, 16 ≤ t ∧ t ≤ 64 ∧ i = .int .i64 t ∧ wr.heap[w.heap.size + 1]? = some (.cells (ucells (pws bl t)) 66 (0, 0)) ∧ Below (w.heap.size + 1) wz wr) (fun i _ => 64 - (intOf i).toNat)
      case atStart => exact ⟨16, by omega, by omega, rfl, HX.out, HB.out⟩
      case round =>
        obtain ⟨t, ht0, ht, rfl, hX, hB⟩ := hrel
        by_cases hlt : t < 64
        · obtain ⟨q0, h0⟩ : ∃ q, q = t - 16 := ⟨_, rfl⟩
          obtain ⟨q1, h1⟩ : ∃ q, q = t - 15 := ⟨_, rfl⟩
          obtain ⟨q7, h7⟩ : ∃ q, q = t - 7 := ⟨_, rfl⟩
          obtain ⟨q2, h2⟩ : ∃ q, q = t - 2 := ⟨_, rfl⟩
          have e0 : IntKind.i64.wrap ((t : Int) - 16) = (q0 : Int) := by rw [IntWalk.i64_in _ (by omega)]; omega
          have e1 : IntKind.i64.wrap ((t : Int) - 15) = (q1 : Int) := by rw [IntWalk.i64_in _ (by omega)]; omega
          have e7 : IntKind.i64.wrap ((t : Int) - 7) = (q7 : Int) := by rw [IntWalk.i64_in _ (by omega)]; omega
          have e2 : IntKind.i64.wrap ((t : Int) - 2) = (q2 : Int) := by rw [IntWalk.i64_in _ (by omega)]; omega
          have i0 : (q0 : Int) < 64 := by omega
          have i1 : (q1 : Int) < 64 := by omega
          have i7 : (q7 : Int) < 64 := by omega
          have i2 : (q2 : Int) < 64 := by omega
          have it : (t : Int) < 64 := by omega
          have cw : ∀ j, j < t → wr.cell? ⟨w.heap.size + 1, j, none⟩ = some (.int .u32 (u (W bl j))) := fun j hj => by
            rw [cell_of_row wr _ j _ _ _ hX, ucells_at _ j (by rw [pws_length]; omega), pws_at bl t j hj (by omega)]
          have x0 := cw q0 (by omega)
          have x1 := cw q1 (by omega)
          have x7 := cw q7 (by omega)
          have x2 := cw q2 (by omega)
          have cs : ∀ W1 : World, W1.heap = wr.heap → ∃ o : Value, W1.cell? ⟨w.heap.size + 1, t, none⟩ = some o := by
            intro W1 h1
            exact ⟨_, (cell_of_row W1 _ t _ _ _ (by rw [h1]; exact hX)).trans (ucells_at _ t (by rw [pws_length]; omega))⟩
          have fz : wr.frozen? ⟨w.heap.size + 1, t, none⟩ = false := frozen_of_row _ _ t _ _ hX
          have HN : Hid (W bl q0 + sm0 (W bl q1) + W bl q7 + sm1 (W bl q2) = W bl t) := by
            show _ = _
            rw [h0, h1, h7, h2, ← W_next bl t ht0 hlt]
          have HS : Hid (∀ W1 : World, W1.heap = wr.heap → (W1.setCell ⟨w.heap.size + 1, t, none⟩ (.int .u32 (u (W bl t)))).heap[w.heap.size + 1]? = some (.cells (ucells (pws bl (t + 1))) 66 (0, 0))) := by
            intro W1 h1
            rw [heap_setCell_same W1 _ t _ _ _ (by rw [h1]; exact hX), ucells_set, pws_set bl t (by omega)]
          have HB := Lib.hid hB
          clear hB hX cw h0 h1 h7 h2
          generalize W bl q0 = z0 at *
          generalize W bl q1 = z1 at *
          generalize W bl q7 = z7 at *
          generalize W bl q2 = z2 at *
          generalize W bl t = wx at *
          have hE : z0 + (rot z1 7 ^^^ rot z1 18 ^^^ z1 >>> 3) + z7 + (rot z2 17 ^^^ rot z2 19 ^^^ z2 >>> 10) = wx := HN.out
          have g3 : u z1 / (8 : Int) = u (z1 >>> 3) := u_shr z1 3 (by omega)
          have g10 : u z2 / (1024 : Int) = u (z2 >>> 10) := u_shr z2 10 (by omega)
          go_wp2_with fail
          go_quiet (fail)
          go_wp2_with fail
          refine wp_region_still_tail 29 (by kernel_rfl) (by kernel_rfl) ?_
          simp only [List.take_succ_cons, List.take_zero, List.drop_succ_cons, List.drop_zero]
          obtain ⟨W1, hW1⟩ : ∃ W : World, W = (wr.drewN nq).drew := ⟨_, rfl⟩
          change wpStill _ _ (wr.drewN nq).drew _ _ _
          rw [← hW1]
          obtain ⟨vo, y⟩ := cs W1 (by rw [hW1]; rfl)
          have y0 : W1.cell? ⟨w.heap.size + 1, q0, none⟩ = some (.int .u32 (u z0)) := by rw [hW1]; exact x0
          have y7 : W1.cell? ⟨w.heap.size + 1, q7, none⟩ = some (.int .u32 (u z7)) := by rw [hW1]; exact x7
          have yf : W1.frozen? ⟨w.heap.size + 1, t, none⟩ = false := by rw [hW1]; exact fz
          have HW1 := Lib.hid hW1
          clear hW1 x0 x1 x2 x7 cs fz
          repeat (refine wpStill_step (fun K hK => ?_); go_simp; first | (refine hK _ ?_; clear hK K) | (refine ⟨_, (turn_any _ _ _ (by decide)).mono (fun _ _ h => ⟨h.1, h.2.symm⟩), hK _ ?_⟩; clear hK K))
          refine wpStill_nil ?_
          change wpList _ _ _ _ _ (wr.drewN nq).drew
          rw [← HW1.out]
          go_wp2_with fail
          have HS2 : Hid ((W1.setCell ⟨w.heap.size + 1, t, none⟩ (.int .u32 (u wx))).heap[w.heap.size + 1]? = some (.cells (ucells (pws bl (t + 1))) 66 (0, 0)) ∧ Below (w.heap.size + 1) wz (W1.setCell ⟨w.heap.size + 1, t, none⟩ (.int .u32 (u wx)))) := by
            refine ⟨HS.out W1 (by rw [HW1.out]; rfl), ?_⟩
            rw [HW1.out]
            exact ((below_drewN HB.out _).drew).setCell (Nat.le_refl _) _
          go_wp2_with fail
          go_roundw
          case rel => exact ⟨t + 1, by omega, by omega, by go_num, HS2.out.1, HS2.out.2⟩
          case measure => simp [intOf]; omega
        · obtain rfl : t = 64 := by omega
          rw [show ((64 : Nat) : Int) = 64 from rfl]
          have h0 : wr.heap[w.heap.size]? = some (.cells (ucells z64) 66 (0, 0)) := by
            rw [hB.block _ (by omega)]; exact Hb0.out
          have HX2 := Lib.hid hX
          have HB2 := Lib.hid hB
          have H0 := Lib.hid h0
          clear hX hB h0
          go_wp2_with (first
            | (refine wpList_load_row (o := ⟨some 84, _, _, _, _, _⟩) rfl 66 (.tmp 3) rfl (w.heap.size + 1) rfl _ _ _ _ HX2.out Tryd.underlying66 rfl (by rw [ucells_size, pws_length]; exact size_64) ?_)
            | (refine wpList_store_row (o := ⟨none, .store 66 (.tmp 2) (.tmp 84), _, _, _, _⟩) rfl 66 (.tmp 2) (.tmp 84) rfl w.heap.size rfl (ucells (pws bl 64)) (ucells z64) rfl 66 H0.out (by rw [ucells_size, ucells_size, pws_length]; rfl) (by rw [ucells_size, pws_length]; exact size_64) (ucells_one _) ?_))
          have HR : Hid ((wr.setRow w.heap.size (ucells (pws bl 64))).heap[w.heap.size]? = some (.cells (ucells (pws bl 64)) 66 (0, 0))) := setRow_heap wr _ _ _ _ _ H0.out
          exact bodyPost_ret (v := .agg (ucells (pws bl 64))) (results_cell_row Tryd.results41 _ _ w.heap.size _ _ _ _ rfl HR.out Tryd.underlying66 rfl (by rw [ucells_size, pws_length]; exact size_64)) rfl
            ⟨rfl, (Hbl.out.trans (HB2.out.mono (Nat.le_succ _))).grown (grown_setRow _ _ _) (Nat.le_trans (Nat.le_of_succ_le Hsz.out) HB2.out.size) (fun k hk => by injection hk with hk; omega)⟩
end Go.Proofs.YtjjdjdhkfmfchaaDoor

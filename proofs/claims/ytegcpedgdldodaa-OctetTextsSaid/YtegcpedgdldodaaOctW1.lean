/- The walk of octet.Num. -/
import Derived.Test.YtegcpedgdldodaaProg
import Derived.Test.YtegcpedgdldodaaOctPlain
import Derived.WalkKit
import Derived.WalkSpells
import Derived.WalkLawsBesides
import Derived.Deep.LoopGhost
import Derived.Laws.BytesArg
import Derived.Lib.Hide
import Derived.KernelRfl
namespace Go.Proofs.Ytegcpedgdldodaa
set_option linter.unusedVariables false
set_option linter.unusedSimpArgs false
open Go.RowKit Oct

/-- the cells of the nine bytes, of which those from a on are laid. -/
def blk9 (v a : Nat) : Array Value := (List.replicate a (Value.int .u8 0) ++ (dg (9 - a) v).map (fun c => Value.int .u8 c.toNat)).toArray

def Inv9 (v a x : Nat) : Prop := x = v / 256 ^ (9 - a) ∧ ∀ i, i < 9 - a → 0 < v / 256 ^ i

theorem o_info_u8 : (Try.prog.info? 5).map (fun i => (i.zero, i.size, i.bytes)) = some (some (.int .u8 0), 1, 1) := by kernel_rfl

theorem num_short_any (v : Nat) (w : World) (h : v < 248) :
    Calls Try.prog 11 #[.int .u64 v] w fun e w' => e = .returned (.string ⟨(num v).toArray⟩) ∧ Below w.heap.size w w' := by
  have hs := strOfNums_data [(v : Int)]
  have hn : (.string ⟨(num v).toArray⟩ : Value) = .string (strOfNums [(v : Int)]) := by rw [num_short h]; rfl
  have hc := run_convert_bytes_arg (P := Try.prog) (w.alloc (Obj.cells #[Value.int IntKind.u8 v] 5)) 45 5 Try.underlying45 Try.underlying5 w.heap.size 0 1 1 [(v : Int)] rfl
    (fun i hi => by obtain rfl : i = 0 := by omega
                    simp) 9 Try.underlying9
  have HN := Lib.hid hn
  clear hn hs
  go_enter Try.func11, Try.ntmps11
  go_wp2
  go_ret
  exact ⟨by rw [HN.out]; rfl, (Below.refl _ _).alloc (Nat.le_refl _) _⟩

theorem blk9_size (v a : Nat) (h : a ≤ 9) : (blk9 v a).size = 9 := by simp [blk9, dg_length]; omega
theorem blk9_zero (v c : Nat) : (blk9 v (c + 1))[c]? = some (.int .u8 0) := by
  simp [blk9, List.getElem?_append]
theorem blk9_start (v : Nat) : blk9 v 9 = #[.int .u8 0, .int .u8 0, .int .u8 0, .int .u8 0, .int .u8 0, .int .u8 0, .int .u8 0, .int .u8 0, .int .u8 0] := rfl
theorem set_mid {α : Type} (z u : α) (n : Nat) (l : List α) : ((List.replicate (n + 1) z ++ l).toArray.setIfInBounds n u) = (List.replicate n z ++ (u :: l)).toArray := by
  rw [List.replicate_succ']
  apply Array.ext'
  simp [List.set_append]
theorem blk9_step (v c y : Nat) (hc : c ≤ 8) (h : Inv9 v (c + 1) y) : (blk9 v (c + 1)).setIfInBounds c (.int .u8 ((y : Int) % 256)) = blk9 v c := by
  unfold blk9
  rw [set_mid (Value.int .u8 0)]
  rw [show 9 - c = (9 - (c + 1)) + 1 by omega, dg_succ]
  have : ((UInt8.ofNat (v / 256 ^ (9 - (c + 1)))).toNat : Int) = (y : Int) % 256 := by
    rw [h.1]; simp
  simp only [List.map_cons, this]
theorem inv9_step (v c y : Nat) (hc : c ≤ 8) (h : Inv9 v (c + 1) y) (hy : 0 < y) : Inv9 v c (y / 256) := by
  obtain ⟨h1, h2⟩ := h
  refine ⟨?_, fun i hi => ?_⟩
  · rw [h1, Nat.div_div_eq_div_mul, show 9 - c = (9 - (c + 1)) + 1 by omega, Nat.pow_succ]
  · rcases Nat.lt_or_ge i (9 - (c + 1)) with h | h
    · exact h2 i h
    · obtain rfl : i = 9 - (c + 1) := by omega
      rw [← h1]; exact hy
theorem inv9_low (v c y : Nat) (hv : v < 256 ^ 8) (hc : c ≤ 8) (h : Inv9 v (c + 1) y) (hy : 0 < y) : 1 ≤ c := by
  rcases Nat.eq_zero_or_pos c with rfl | h'
  · rw [h.1] at hy
    rw [show 9 - (0 + 1) = 8 from rfl, Nat.div_eq_of_lt hv] at hy
    omega
  · exact h'
theorem inv9_end (v c : Nat) (hv : v < 256 ^ 8) (h : Inv9 v (c + 1) 0) : 9 - (c + 1) = nd v := nd_iff hv h.2 h.1.symm
theorem run_sliceAt_from {P : Program} (W : World) {t e : TypeId} {n : Nat} {i : TypeInfo} (ht : P.underlying t = some (.array n e)) (hi : P.info? e = some i) (hsz : i.size = 1) (b off c : Nat) (hc : c < n) :
    (Instr.sliceAt t (.pointer (some ⟨b, off, none⟩)) (some (.int .i64 (c : Int))) none none).run P W = .ok (.slice (some ⟨b, off + c, none⟩) (n - c) (n - c)) W := by
  simp [Instr.sliceAt, Instr.sureAddr, run_underlying ht, Instr.sliceBounds, run_sliceBound, sizeOf, typeInfo, hi, hsz, Addr.add, (by omega : c ≤ n)]
  rw [if_neg (by omega)]
  split
  · subst c; rfl
  · rfl
/-- the bytes of the end, as numbers. -/
def endNums (v c : Nat) : List Int := (255 - (c : Int)) :: (dg (9 - (c + 1)) v).map (fun x => (x.toNat : Int))
theorem endNums_length (v c : Nat) (hc : c ≤ 8) : (endNums v c).length = 9 - c := by simp [endNums, dg_length]; omega
theorem endNums_cell (v c : Nat) (hc : c ≤ 8) (i : Nat) (hi : i < 9 - c) : ((blk9 v (c + 1)).setIfInBounds c (.int .u8 (255 - (c : Int))))[c + i]? = some (.int .u8 ((endNums v c).getD i 0)) := by
  unfold blk9
  rw [set_mid (Value.int .u8 0)]
  simp only [List.getElem?_toArray]
  rw [List.getElem?_append_right (by simp)]
  simp only [List.length_replicate, Nat.add_sub_cancel_left]
  cases i with
  | zero => simp [endNums]
  | succ i =>
    have : i < (dg (9 - (c + 1)) v).length := by rw [dg_length]; omega
    have h2 : i < (dg (8 - c) v).length := by rw [dg_length]; omega
    simp [endNums, List.getElem?_eq_getElem h2]
theorem endNums_str (v c : Nat) (h : ¬ v < 248) (hc : c ≤ 8) (hv : v < 256 ^ 8) (hI : Inv9 v (c + 1) 0) : strOfNums (endNums v c) = ⟨(num v).toArray⟩ := by
  have he := inv9_end v c hv hI
  rw [num_long h]
  unfold strOfNums endNums
  rw [he]
  have h1 : 255 - (c : Int) = ((247 + nd v : Nat) : Int) := by omega
  rw [h1]
  simp only [List.map_cons, List.map_map, Function.comp_def, Int.toNat_natCast, UInt8.ofNat_toNat, List.map_id']

set_option maxHeartbeats 400000 in
theorem num_long_any (v : Nat) (w : World) (h0 : 247 < v) (hv : v < 256 ^ 8) :
    Calls Try.prog 11 #[.int .u64 v] w fun e w' => e = .returned (.string ⟨(num v).toArray⟩) ∧ Below w.heap.size w w' := by
  have HV := Lib.hid hv
  clear hv
  have hd : decide ((v : Int) ≤ 247) = false := by simp; omega
  go_enter Try.func11, Try.ntmps11
  go_wp2
  go_loopw [0, 4] (fun x a wr => ∃ c y : Nat, 1 ≤ c ∧ c ≤ 9 ∧ Hid (Inv9 v c y) ∧ x = .int .u64 y ∧ a = .int .i64 c ∧ wr.heap[w.heap.size]? = some (.cells (blk9 v c) 46 (0, 0)) ∧ Below w.heap.size w wr) (fun _ a _ => (intOf a).toNat)
  case atStart => exact ⟨9, v, by omega, by omega, ⟨by simp, fun i hi => by omega⟩, rfl, rfl, by rw [heap_alloc_new, blk9_start], (Below.refl _ _).alloc (Nat.le_refl _) _⟩
  case round =>
    obtain ⟨c, y, h1, h9, HI, rfl, rfl, hb, hB⟩ := hrel
    obtain ⟨c, rfl⟩ : ∃ d, c = d + 1 := ⟨c - 1, by omega⟩
    have hfz : wr.frozen? ⟨w.heap.size, c, none⟩ = false := frozen_of_row _ _ c _ _ hb
    have hcc : wr.cell? ⟨w.heap.size, c, none⟩ = some (.int .u8 0) := by rw [cell_of_row _ _ c _ _ _ hb, blk9_zero]
    by_cases hy : 0 < y
    · have hb2 : Hid ((wr.setCell ⟨w.heap.size, c, none⟩ (.int .u8 ((y : Int) % 256))).heap[w.heap.size]? = some (.cells (blk9 v c) 46 (0, 0))) := by
        show _ = _
        rw [heap_setCell_same _ _ c _ _ _ hb, blk9_step v c y (by omega) HI.out]
      have HBB := Lib.hid (inv9_step v c y (by omega) HI.out hy)
      have hc1 := inv9_low v c y HV.out (by omega) HI.out hy
      have HB := Lib.hid (hB.setCell (p := ⟨w.heap.size, c, none⟩) (Nat.le_refl _) (.int .u8 ((y : Int) % 256)))
      clear hb hB
      go_wp2
      go_roundw
      case rel => exact ⟨c, y / 256, hc1, by omega, HBB, rfl, rfl, hb2.out, HB.out⟩
      case measure => simp [intOf]
    · obtain rfl : y = 0 := by omega
      have hb2 := heap_setCell_same _ _ c _ _ (.int .u8 (255 - (c : Int))) hb
      have hcv := run_convert_bytes_arg (P := Try.prog) (wr.setCell ⟨w.heap.size, c, none⟩ (.int .u8 (255 - (c : Int)))) 45 5 Try.underlying45 Try.underlying5 w.heap.size c (9 - c) (9 - c) (endNums v c) (endNums_length v c (by omega))
        (fun i hi => by rw [cell_of_row _ _ _ _ _ _ hb2]; exact endNums_cell v c (by omega) i hi) 9 Try.underlying9
      have HS := Lib.hid (endNums_str v c (by omega) (by omega) HV.out HI.out)
      have HB := Lib.hid (hB.setCell (p := ⟨w.heap.size, c, none⟩) (Nat.le_refl _) (.int .u8 (255 - (c : Int))))
      obtain ⟨i0, hi, _, hz1, _⟩ := info_parts o_info_u8
      have hsl := fun W => run_sliceAt_from (P := Try.prog) W Try.underlying46 hi hz1 w.heap.size 0 c (by omega)
      simp only [Nat.zero_add] at hsl
      clear hb hB hb2 hi hz1
      go_wp2
      go_ret
      exact ⟨by rw [HS.out]; rfl, HB.out⟩

/-- octet.Num answers the number's bytes, and turns nothing that was there. -/
theorem num_any (v : Nat) (w : World) (hv : v < 256 ^ 8) :
    Calls Try.prog 11 #[.int .u64 v] w fun e w' => e = .returned (.string ⟨(num v).toArray⟩) ∧ Below w.heap.size w w' := by
  by_cases h : v < 248
  · exact num_short_any v w h
  · exact num_long_any v w (by omega) hv
end Go.Proofs.Ytegcpedgdldodaa

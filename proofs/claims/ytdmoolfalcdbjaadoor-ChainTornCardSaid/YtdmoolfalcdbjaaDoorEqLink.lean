/- The comparison of two links. -/
import Derived.Test.YtdmoolfalcdbjaaDoorChainW1
import Derived.ChangeKeysEq
namespace Go.Proofs.YtdmoolfalcdbjaaDoor
set_option linter.unusedVariables false
set_option linter.unusedSimpArgs false
open Go.RowKit Sha

theorem cells_u8 : Tryd.prog.cellsOf 5 = 1 := by kernel_rfl
theorem plain_u8 : Tryd.prog.plainKey 5 = true := by kernel_rfl
theorem eq_items (x y : List UInt8) (h : x.length = y.length) (d : Nat) (w : World) : ∀ (is : List Nat), (∀ i ∈ is, i < x.length) →
    (Op.eqItems (d + 1) 5 1 (brow x) (brow y) is).run Tryd.prog w = .ok (is.all fun i => x.getD i 0 == y.getD i 0) w
  | [], _ => by simp [Op.eqItems]
  | i :: is, hi => by
    have h1 : i < x.length := hi i (by simp)
    have h2 : i < y.length := by omega
    have p1 := run_part_plain (P := Tryd.prog) (w := w) plain_u8 (xs := brow x) (off := i * 1) (v := .int .u8 (by8 x[i])) (by rw [Nat.mul_one]; exact brow_at x i h1)
    have p2 := run_part_plain (P := Tryd.prog) (w := w) plain_u8 (xs := brow y) (off := i * 1) (v := .int .u8 (by8 y[i])) (by rw [Nat.mul_one]; exact brow_at y i h2)
    have p3 : (Op.equalIn (d + 1) 5 (.int .u8 (by8 x[i])) (.int .u8 (by8 y[i]))).run Tryd.prog w = .ok (by8 x[i] == by8 y[i]) w := by
      simp [Op.equalIn, run_underlying Tryd.underlying5]
    have hb : (by8 x[i] == by8 y[i]) = (x.getD i 0 == y.getD i 0) := by
      rw [List.getD_eq_getElem?_getD, List.getD_eq_getElem?_getD, List.getElem?_eq_getElem h1, List.getElem?_eq_getElem h2, Option.getD_some, Option.getD_some, Bool.eq_iff_iff, beq_iff_eq, beq_iff_eq]
      constructor
      · intro e
        unfold by8 at e
        exact UInt8.toNat_inj.1 (by omega)
      · intro e; rw [e]
    have ih := eq_items x y h d w is (fun j hj => hi j (by simp [hj]))
    simp only [Op.eqItems, Sem.run_bind, p1, p2, p3, Result.andThen_ok, List.all_cons]
    rw [hb]
    cases hq : (x.getD i 0 == y.getD i 0)
    · simp
    · simpa using ih
theorem all_range (x y : List UInt8) (n : Nat) (hx : x.length = n) (hy : y.length = n) : ((List.range n).all fun i => x.getD i 0 == y.getD i 0) = (x == y) := by
  rw [Bool.eq_iff_iff, beq_iff_eq, List.all_eq_true]
  constructor
  · intro h
    refine List.ext_getElem (by omega) fun i h1 h2 => ?_
    have := h i (by rw [List.mem_range]; omega)
    rw [beq_iff_eq, List.getD_eq_getElem?_getD, List.getD_eq_getElem?_getD, List.getElem?_eq_getElem h1, List.getElem?_eq_getElem h2, Option.getD_some, Option.getD_some] at this
    exact this
  · rintro rfl i _
    rw [beq_iff_eq]
/-- two links compared. -/
theorem eql_link (x y : List UInt8) (hx : x.length = 32) (hy : y.length = 32) (w : World) : (binOp .eql 49 (.agg (brow x)) (.agg (brow y))).run Tryd.prog w = .ok (.bool (x == y)) w := by
  obtain ⟨i0, hi, _, _, _⟩ := info_parts info_u8
  have h1 := run_equalIn_array (P := Tryd.prog) (w := w) 9999 (brow x) (brow y) Tryd.underlying49 hi
  rw [cells_u8, eq_items x y (by omega) 9998 w (List.range 32) (fun i h => by rw [List.mem_range] at h; omega), all_range x y 32 hx hy] at h1
  simp only [binOp]
  simp [Op.equal, Op.maxDepth, h1]
end Go.Proofs.YtdmoolfalcdbjaaDoor

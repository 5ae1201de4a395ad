/- The reference's numbers and words. -/
import Derived.Test.YtjjdjdhkfmfchaaDoorShaW5
namespace Go.Proofs.YtjjdjdhkfmfchaaDoor
set_option linter.unusedVariables false
set_option linter.unusedSimpArgs false
open Go.RowKit Sha
attribute [local go_sem] u_or u_xor u_and u_add

/-- words as cells. -/
def ucells (l : List UInt32) : Array Value := (l.map fun x => Value.int .u32 (u x)).toArray
theorem ucells_size (l : List UInt32) : (ucells l).size = l.length := by simp [ucells]
theorem ucells_one (l : List UInt32) : (ucells l).all (·.oneCell') = true := by
  refine Array.all_eq_true_iff_forall_mem.2 fun v hv => ?_
  simp only [ucells, List.mem_toArray, List.mem_map] at hv
  obtain ⟨x, _, rfl⟩ := hv
  rfl
theorem ucells_at (l : List UInt32) (i : Nat) (h : i < l.length) : (ucells l)[i]? = some (.int .u32 (u l[i])) := by simp [ucells, h]
theorem ucells_set (l : List UInt32) (i : Nat) (x : UInt32) : (ucells l).setIfInBounds i (.int .u32 (u x)) = ucells (l.set i x) := by
  unfold ucells
  rw [List.setIfInBounds_toArray, List.map_set]

def z64 : List UInt32 := List.replicate 64 0
theorem zero_64 : ∀ w, (zeroValue 66).run Tryd.prog w = .ok (.agg (ucells z64)) w := fun w => by kernel_rfl
theorem size_64 : (Tryd.prog.info? 66).map (·.size) = some 64 := by kernel_rfl
theorem size_8 : (Tryd.prog.info? 59).map (·.size) = some 8 := by kernel_rfl
theorem zero_8 : ∀ w, (zeroValue 59).run Tryd.prog w = .ok (.agg (ucells zeros8)) w := fun w => by kernel_rfl

/-- the reference's numbers of the rounds. -/
theorem consts_any (w : World) :
    Calls Tryd.prog 42 #[] w fun e w' => e = .returned (.agg (ucells kk)) ∧ w' = w.alloc (.cells (ucells kk) 66) := by
  have hz := zero_64
  go_enter Tryd.func42, Tryd.ntmps42
  go_wp2_with (first
    | (refine wpList_build_as (o := ⟨some 1, _, _, _, _, _⟩) rfl 66 _ rfl (.agg (ucells kk)) (fun w => by kernel_rfl) ?_)
    | (refine wpList_store_row (o := ⟨none, .store 66 (.tmp 0) (.tmp 1), _, _, _, _⟩) rfl 66 (.tmp 0) (.tmp 1) rfl w.heap.size rfl (ucells kk) (ucells z64) rfl 66 (heap_alloc_new w _) rfl size_64 (ucells_one _) ?_; rw [alloc_setRow]))
  exact bodyPost_ret (v := .agg (ucells kk)) (results_cell_row Tryd.results42 _ _ w.heap.size _ _ _ _ rfl (heap_alloc_new w _) Tryd.underlying66 rfl size_64) rfl ⟨rfl, rfl⟩
end Go.Proofs.YtjjdjdhkfmfchaaDoor

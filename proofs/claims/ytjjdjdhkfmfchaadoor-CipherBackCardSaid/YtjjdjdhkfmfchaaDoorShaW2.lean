/- The walks of sha.New, Copy, Len. -/
import Derived.Test.YtjjdjdhkfmfchaaDoorShaW1
import Derived.Test.YtjjdjdhkfmfchaaDoorMemLaws
namespace Go.Proofs.YtjjdjdhkfmfchaaDoor
set_option linter.unusedVariables false
set_option linter.unusedSimpArgs false
open Go.RowKit Sha

/-- the cells of a sum under way. -/
def hcells (st : List UInt32) (wait : List UInt8) (n : Nat) : Array Value := (st.map (fun x => Value.int .u32 (u x)) ++ (wait.map (fun c => Value.int .u8 (by8 c)) ++ [Value.int .i64 n])).toArray

theorem hcells_size {st : List UInt32} {wait : List UInt8} {n : Nat} (h1 : st.length = 8) (h2 : wait.length = 64) : (hcells st wait n).size = 73 := by simp [hcells, h1, h2]
theorem hcells_one (st : List UInt32) (wait : List UInt8) (n : Nat) : (hcells st wait n).all (·.oneCell') = true := by
  unfold hcells
  refine Array.all_eq_true_iff_forall_mem.2 fun v hv => ?_
  simp only [List.mem_toArray, List.mem_append, List.mem_map, List.mem_singleton] at hv
  rcases hv with ⟨x, _, rfl⟩ | ⟨x, _, rfl⟩ | rfl <;> rfl
theorem hcells_state {st : List UInt32} {wait : List UInt8} {n : Nat} (i : Nat) (h : i < st.length) : (hcells st wait n)[i]? = some (.int .u32 (u st[i])) := by
  simp [hcells, List.getElem?_append, h]
theorem hcells_wait {st : List UInt32} {wait : List UInt8} {n : Nat} (h1 : st.length = 8) (i : Nat) (h : i < wait.length) : (hcells st wait n)[8 + i]? = some (.int .u8 (by8 wait[i])) := by
  simp [hcells, List.getElem?_append, h1, h]
theorem hcells_n {st : List UInt32} {wait : List UInt8} {n : Nat} (h1 : st.length = 8) (h2 : wait.length = 64) : (hcells st wait n)[72]? = some (.int .i64 n) := by
  simp [hcells, List.getElem?_append, h1, h2]

/-- block b holds a sum under way: the state, the bytes that wait, how many came in. -/
structure HashAt (w : World) (b : Nat) (st : List UInt32) (wait : List UInt8) (n : Nat) : Prop where
  block : w.heap[b]? = some (.cells (hcells st wait n) 62 (0, 0))
  st8 : st.length = 8
  wait64 : wait.length = 64

theorem HashAt.lt {w : World} {b : Nat} {st : List UInt32} {wait : List UInt8} {n : Nat} (h : HashAt w b st wait n) : b < w.heap.size := lt_of_block h.block
theorem HashAt.kept {w w' : World} {b : Nat} {st : List UInt32} {wait : List UInt8} {n : Nat} (h : HashAt w b st wait n) (he : w'.heap[b]? = w.heap[b]?) : HashAt w' b st wait n := ⟨he.trans h.block, h.st8, h.wait64⟩
theorem HashAt.state {w : World} {b : Nat} {st : List UInt32} {wait : List UInt8} {n : Nat} (h : HashAt w b st wait n) (i : Nat) (hi : i < 8) : w.cell? ⟨b, i, none⟩ = some (.int .u32 (u (st[i]'(by rw [h.st8]; exact hi)))) := by
  rw [cell_of_row w b i _ _ _ h.block]; exact hcells_state i (by rw [h.st8]; exact hi)
theorem HashAt.waits {w : World} {b : Nat} {st : List UInt32} {wait : List UInt8} {n : Nat} (h : HashAt w b st wait n) (i : Nat) (hi : i < 64) : w.cell? ⟨b, 8 + i, none⟩ = some (.int .u8 (by8 (wait[i]'(by rw [h.wait64]; exact hi)))) := by
  rw [cell_of_row w b (8 + i) _ _ _ h.block]; exact hcells_wait h.st8 i (by rw [h.wait64]; exact hi)
theorem HashAt.count {w : World} {b : Nat} {st : List UInt32} {wait : List UInt8} {n : Nat} (h : HashAt w b st wait n) : w.cell? ⟨b, 72, none⟩ = some (.int .i64 n) := by
  rw [cell_of_row w b 72 _ _ _ h.block]; exact hcells_n h.st8 h.wait64
theorem HashAt.free {w : World} {b : Nat} {st : List UInt32} {wait : List UInt8} {n : Nat} (h : HashAt w b st wait n) (i : Nat) : w.frozen? ⟨b, i, none⟩ = false := frozen_of_row w b i _ _ h.block

/-- the first state. -/
def init : List UInt32 := [1779033703, 3144134277, 1013904242, 2773480762, 1359893119, 2600822924, 528734635, 1541459225]
def zeros64 : List UInt8 := List.replicate 64 0
def zeros8 : List UInt32 := List.replicate 8 0

theorem zero_hash : ∀ w, (zeroValue 62).run Tryd.prog w = .ok (.agg (hcells zeros8 zeros64 0)) w := fun w => by kernel_rfl
theorem size_hash : (Tryd.prog.info? 62).map (·.size) = some 73 := by kernel_rfl

set_option maxHeartbeats 400000 in
/-- sha.New makes a sum of nothing, in new memory. -/
theorem new_any (w : World) :
    Calls Tryd.prog 36 #[] w fun e w' => e = .returned (.pointer (some ⟨w.heap.size, 0, none⟩)) ∧ w' = w.alloc (.cells (hcells init zeros64 0) 62) := by
  have hz := zero_hash
  have hs : (hcells zeros8 zeros64 0).size = 73 := by decide +kernel
  have he : ((((((((hcells zeros8 zeros64 0).setIfInBounds 0 (.int .u32 1779033703)).setIfInBounds 1 (.int .u32 3144134277)).setIfInBounds 2 (.int .u32 1013904242)).setIfInBounds 3 (.int .u32 2773480762)).setIfInBounds 4 (.int .u32 1359893119)).setIfInBounds 5 (.int .u32 2600822924)).setIfInBounds 6 (.int .u32 528734635)).setIfInBounds 7 (.int .u32 1541459225) = hcells init zeros64 0 := by kernel_rfl
  have HE := Lib.hid he
  clear he
  go_enter Tryd.func36, Tryd.ntmps36
  go_wp2
  go_ret
  exact ⟨rfl, by rw [HE.out]⟩

set_option maxHeartbeats 400000 in
/-- Copy lays the same in new memory. -/
theorem copy_any (b : Nat) (st : List UInt32) (wait : List UInt8) (n : Nat) (w : World) (h : HashAt w b st wait n) :
    Calls Tryd.prog 30 #[.pointer (some ⟨b, 0, none⟩)] w fun e w' => e = .returned (.pointer (some ⟨w.heap.size, 0, none⟩)) ∧ w' = w.alloc (.cells (hcells st wait n) 62) := by
  have HB := Lib.hid h.block
  have hs := hcells_size (n := n) h.st8 h.wait64
  have HS := Lib.hid hs
  clear h hs
  go_enter Tryd.func30, Tryd.ntmps30
  have hz := zero_hash
  go_wp2_with (first
    | (refine wpList_load_row (o := ⟨some 8, _, _, _, _, _⟩) rfl 62 (.tmp 7) rfl b rfl _ _ _ _ HB.out Tryd.underlying62 rfl (by rw [HS.out]; exact size_hash) ?_)
    | (refine wpList_store_row (o := ⟨none, .store 62 (.tmp 3) (.tmp 8), _, _, _, _⟩) rfl 62 (.tmp 3) (.tmp 8) rfl w.heap.size rfl (hcells st wait n) (hcells zeros8 zeros64 0) rfl 62 (heap_alloc_new w _) (by rw [HS.out]; rfl) (by rw [HS.out]; exact size_hash) (hcells_one _ _ _) ?_; rw [alloc_setRow]))
  go_ret
  exact ⟨rfl, rfl⟩

theorem copy_none (w : World) :
    Calls Tryd.prog 30 #[.pointer none] w fun e w' => e = .returned (.pointer none) ∧ w = w' := by
  go_enter Tryd.func30, Tryd.ntmps30
  go_wp2
  go_ret
  exact ⟨rfl, rfl⟩
end Go.Proofs.YtjjdjdhkfmfchaaDoor

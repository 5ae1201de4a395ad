/- []byte(text): a row of its own whose bytes are set one by one. -/
import Derived.Test.YtjjdjdhkfmfchaaDoorMakeB
namespace Go.Proofs.YtjjdjdhkfmfchaaDoor
set_option linter.unusedVariables false
set_option linter.unusedSimpArgs false
open Go.RowKit Sha

/-- block g begins with these bytes, and none of them is marked. -/
def RowB (w : World) (g : Nat) (l : List UInt8) : Prop :=
  ∃ cur fz, w.heap[g]? = some (.cells cur 5 fz) ∧ (∀ j, j < l.length → ¬ (fz.1 ≤ j ∧ j < fz.2)) ∧ cur.toList.take l.length = bcells l ∧ l.length ≤ cur.size

theorem RowB.lt {w : World} {g : Nat} {l : List UInt8} (h : RowB w g l) : g < w.heap.size := by obtain ⟨_, _, h, _⟩ := h; exact lt_of_block h
theorem RowB.kept {w w' : World} {g : Nat} {l : List UInt8} (h : RowB w g l) (he : w'.heap[g]? = w.heap[g]?) : RowB w' g l := by
  obtain ⟨cur, fz, h1, h2⟩ := h
  exact ⟨cur, fz, he.trans h1, h2⟩
theorem RowB.cell {w : World} {g : Nat} {l : List UInt8} (h : RowB w g l) (i : Nat) (hi : i < l.length) : w.cell? ⟨g, i, none⟩ = some (.int .u8 (by8 l[i])) := by
  obtain ⟨cur, fz, h1, h2, h3, h4⟩ := h
  rw [cell_of_row w g i _ _ _ h1]
  have e : (bcells l)[i]? = some (.int .u8 (by8 l[i])) := by simp [bcells, List.getElem?_eq_getElem hi]
  rw [← h3, List.getElem?_take, if_pos hi] at e
  simpa using e
theorem RowB.free {w : World} {g : Nat} {l : List UInt8} (h : RowB w g l) (i : Nat) (hi : i < l.length) : w.frozen? ⟨g, i, none⟩ = false := by
  obtain ⟨cur, fz, h1, h2, h3, h4⟩ := h
  obtain ⟨lo, hi'⟩ := fz
  have := h2 i hi
  simp only [World.frozen?, h1, Bool.and_eq_false_iff, decide_eq_false_iff_not]
  simp only at this
  omega
theorem RowB.set {w : World} {g : Nat} {l : List UInt8} (h : RowB w g l) (i : Nat) (c : UInt8) (hi : i < l.length) : RowB (w.setCell ⟨g, i, none⟩ (.int .u8 (by8 c))) g (l.set i c) := by
  obtain ⟨cur, fz, h1, h2, h3, h4⟩ := h
  refine ⟨cur.setIfInBounds i (.int .u8 (by8 c)), fz, ?_, by rw [List.length_set]; exact h2, ?_, by rw [List.length_set, Array.size_setIfInBounds]; exact h4⟩
  · rw [setCell_eq_setRow w g i cur _ fz _ h1]
    exact setRow_heap w g cur _ _ _ h1
  · rw [List.length_set, Array.toList_setIfInBounds, List.take_set, h3]
    unfold bcells
    rw [List.map_set]
theorem RowB.conv {w : World} {g n cap : Nat} {l : List UInt8} (h : RowB w g l) (hn : l.length = n) :
    (convert 31 9 (.slice (some ⟨g, 0, none⟩) n cap)).run Tryd.prog w = .ok (.string ⟨l.toArray⟩) w :=
  conv_bytes hn (fun i hi => by rw [Nat.zero_add]; exact h.cell i hi)
theorem RowB.of {w : World} {g n : Nat} (h : w.heap[g]? = some (.cells (brow (zrow n)) 5 (0, 0))) : RowB w g (zrow n) :=
  ⟨_, _, h, fun j _ => by simp, by rw [List.take_of_length_le (by simp [brow, bcells])]; simp [brow], by simp [brow, bcells]⟩

/-- []byte(text). -/
theorem wpList_bytes_row {w : World} {ops : Array Oper} {rest : List Oper} {o : Oper} {a : Act} {Q : Exit → Act → World → Prop} (hgd : o.guard = none) (x : Operand) (ho : o.op = .convert 9 31 x) (l : List UInt8)
    (hx : a.eval x = .string ⟨l.toArray⟩) (hl : l.length ≤ 1099511627776)
    (h : ∀ cap w', l.length ≤ cap → cap ≤ maxLen → RowB w' w.heap.size l → w.grownBy w' none → wpList Tryd.prog ops Q rest (a.put o.dst (.slice (some ⟨w.heap.size, 0, none⟩) l.length cap)) w') : wpList Tryd.prog ops Q (o :: rest) a w := by
  have hs : (ByteArray.mk l.toArray).size = l.length := by simp [ByteArray.size]
  have hr := Lib.run_convert_string_bytes (P := Tryd.prog) w 9 31 5 ⟨l.toArray⟩ Tryd.underlying9 Tryd.underlying31 Tryd.underlying5
  have hge := grownCap_ge w l.length 0 5
  have hsz : (Lib.bytesCells w 5 ⟨l.toArray⟩).size = grownCap w l.length 0 5 := by
    unfold Lib.bytesCells
    rw [Array.size_append, Array.size_map, Array.size_replicate, hs, show (ByteArray.mk l.toArray).data.size = l.length by simp]
    omega
  rw [hs] at hr
  refine wpList_val hgd (w' := Lib.bytesWorld w 5 ⟨l.toArray⟩) ?_ (h _ _ hge (grownCap_le_maxLen w l.length 0 5 (by unfold maxLen; omega)) ⟨_, _, Lib.bytesWorld_at_new w _ _, ?_, ?_, by rw [hsz]; exact hge⟩ ⟨rfl, rfl, rfl, by rw [Lib.bytesWorld_size]; omega, fun k hk _ => Lib.bytesWorld_at_old w _ _ k hk⟩)
  · unfold execOp
    simp only [ho, hx, Sem.run_bind, hr, Result.andThen_ok, Sem.run_pure]
  · intro j hj
    rw [hsz]
    simp only
    omega
  · unfold Lib.bytesCells
    rw [Array.toList_append, List.take_append_of_le_length (by simp), Array.toList_map, List.take_of_length_le (by simp)]
    rfl
end Go.Proofs.YtjjdjdhkfmfchaaDoor

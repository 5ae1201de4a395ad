/- Rows of bytes as whole blocks: make of zeros, copy of a text into them, a byte set. -/
import Derived.Test.YtjjdjdhkfmfchaaDoorBytes
import Derived.Test.YtjjdjdhkfmfchaaDoorHmacPlain
import Derived.Deep.OwnRows
namespace Go.Proofs.YtjjdjdhkfmfchaaDoor
set_option linter.unusedVariables false
set_option linter.unusedSimpArgs false
open Go.RowKit Sha

/-- a row's cells. -/
def brow (l : List UInt8) : Array Value := (bcells l).toArray
def zrow (n : Nat) : List UInt8 := List.replicate n 0
theorem zrow_length (n : Nat) : (zrow n).length = n := List.length_replicate
theorem brow_size (l : List UInt8) : (brow l).size = l.length := by simp [brow, bcells]
theorem brow_at (l : List UInt8) (i : Nat) (h : i < l.length) : (brow l)[i]? = some (.int .u8 (by8 l[i])) := by
  simp [brow, bcells, List.getElem?_eq_getElem h]
theorem brow_set (l : List UInt8) (i : Nat) (c : UInt8) : (brow l).setIfInBounds i (.int .u8 (by8 c)) = brow (l.set i c) := by
  unfold brow bcells
  rw [List.setIfInBounds_toArray, List.map_set]
theorem made_zeros (n : Nat) : madeCells #[Value.int .u8 0] n = brow (zrow n) := by
  unfold madeCells brow bcells zrow
  apply Array.ext
  · simp
  · intro i h1 h2
    simp [by8, Nat.mod_one]
theorem run_make_bytes (n : Nat) (h : n ≤ 1000000000) (w : World) :
    (Instr.makeSlice 31 (.int .i64 (n : Int)) (.int .i64 (n : Int))).run Tryd.prog w = .ok (.slice (some ⟨w.heap.size, 0, none⟩) n n) (w.alloc (.cells (brow (zrow n)) 5)) := by
  have := run_make_row' (P := Tryd.prog) 31 5 (.int .u8 0) 1 Tryd.underlying31 info_u8 rfl .i64 .i64 n (by omega) (by omega) w
  rw [made_zeros] at this
  exact this
theorem brow_cell {w : World} {g : Nat} {l : List UInt8} {t : TypeId} {fz : Nat × Nat} (hg : w.heap[g]? = some (.cells (brow l) t fz)) (i : Nat) (h : i < l.length) : w.cell? ⟨g, i, none⟩ = some (.int .u8 (by8 l[i])) := by
  rw [cell_of_row w g i _ _ _ hg]; exact brow_at l i h
theorem conv_brow {w : World} {g n cap : Nat} {l : List UInt8} {t : TypeId} {fz : Nat × Nat} (hn : l.length = n) (hg : w.heap[g]? = some (.cells (brow l) t fz)) :
    (convert 31 9 (.slice (some ⟨g, 0, none⟩) n cap)).run Tryd.prog w = .ok (.string ⟨l.toArray⟩) w :=
  conv_bytes hn (fun i hi => by rw [Nat.zero_add]; exact brow_cell hg i hi)
/-- string(make([]byte, n)), of a row that was just laid. -/
theorem conv_zeros (n : Nat) (w : World) : (convert 31 9 (.slice (some ⟨w.heap.size, 0, none⟩) n n)).run Tryd.prog (w.alloc (.cells (brow (zrow n)) 5)) = .ok (.string ⟨(zrow n).toArray⟩) (w.alloc (.cells (brow (zrow n)) 5)) :=
  conv_brow (zrow_length n) (heap_alloc_new w _)

/-- copy of a text into a row that is long enough. -/
theorem wpList_copy_row {w : World} {ops : Array Oper} {rest : List Oper} {o : Oper} {ac : Act} {Q : Exit → Act → World → Prop} (hgd : o.guard = none) (d s : Operand)
    (ho : o.op = .call { callee := .builtin .copy, args := #[d, s], argTypes := #[31, 9] }) (g n cap : Nat) (l z : List UInt8) (hd : ac.eval d = .slice (some ⟨g, 0, none⟩) n cap) (hs : ac.eval s = .string ⟨l.toArray⟩)
    (hz : z.length = n) (hl : l.length ≤ n) (hg : w.heap[g]? = some (.cells (brow z) 5 (0, 0)))
    (hh : ∀ w', w'.heap[g]? = some (.cells (brow (l ++ z.drop l.length)) 5 (0, 0)) → w.grownBy w' (some g) → wpList Tryd.prog ops Q rest (ac.put o.dst (.int .i64 (l.length : Int))) w') : wpList Tryd.prog ops Q (o :: rest) ac w := by
  obtain ⟨i0, hi, _, hz1, _⟩ := info_parts info_u8
  have hs1 : (Tryd.prog.info? 5).map (·.size) = some 1 := by rw [hi]; simp [hz1]
  have hk : l.length = Nat.min l.length n := (Nat.min_eq_left hl).symm
  have hr := run_copy_str (P := Tryd.prog) w 31 9 o.type 5 g 0 n cap l.length l _ _ Tryd.underlying31 hs1 hg hk (by rw [brow_size, hz]; omega)
  have e : ((brow z).toList.take 0 ++ bcells (l.take l.length) ++ (brow z).toList.drop (0 + l.length)).toArray = brow (l ++ z.drop l.length) := by
    rw [List.take_length]
    simp [brow, bcells, List.map_drop]
  rw [e] at hr
  exact Lib.wpList_copy_run w hgd d s _ _ ho _ _ hd hs hr (hh _ (setRow_heap w g _ _ _ _ hg) (grown_setRow w g _))
/-- a byte of a row set. -/
theorem brow_setCell {w : World} {g : Nat} {l : List UInt8} {t : TypeId} (hg : w.heap[g]? = some (.cells (brow l) t (0, 0))) (i : Nat) (c : UInt8) :
    (w.setCell ⟨g, i, none⟩ (.int .u8 (by8 c))).heap[g]? = some (.cells (brow (l.set i c)) t (0, 0)) := by
  rw [heap_setCell_same _ _ i _ _ _ hg, brow_set]
end Go.Proofs.YtjjdjdhkfmfchaaDoor

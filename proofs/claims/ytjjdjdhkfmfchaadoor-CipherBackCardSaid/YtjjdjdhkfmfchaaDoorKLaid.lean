/- The table sha.k, as the rows list it, is the numbers of the rounds. A world that holds it. -/
import Derived.Test.YtjjdjdhkfmfchaaDoorRows
import Derived.Test.YtjjdjdhkfmfchaaDoorShaR1
import Derived.Lib.LaidTab
namespace Go.Proofs.YtjjdjdhkfmfchaaDoor
set_option linter.unusedVariables false
open Go.RowKit Sha
theorem gTab : Tryd.prog.globalNamed "chirograph/sha.k" = some 0 := by kernel_rfl
theorem gTabType : (Tryd.prog.globals[0]?).map (·.type) = some 66 := by kernel_rfl
theorem cellsTab : Tryd.prog.cellsOf 66 = 64 := by kernel_rfl
theorem cellsOne : Tryd.prog.cellsOf 58 = 1 := by kernel_rfl
theorem laid_tab {H : Type} : (Rows.laid_chirograph_sha_k : DataW H) = Lib.tabData .u32 (kk.map u) := by kernel_rfl
theorem kLaid_of {W : World} (h : laidMetH Tryd.prog [("chirograph/sha.k", Rows.laid_chirograph_sha_k)] W) : KLaid W := by
  have ht : Lib.TabIs Tryd.prog W "chirograph/sha.k" .u32 (kk.map u) :=
    Lib.tabIs_of_head (rest := []) gTab gTabType Tryd.underlying66 Tryd.underlying58 cellsOne cellsTab (by rw [← laid_tab]; exact h)
  intro i hi
  have hl : i < kk.length := hi
  rw [ht.cell gTab i (by rw [List.length_map]; exact hl)]
  simp [List.getD_eq_getElem?_getD, List.getElem?_eq_getElem hl]
noncomputable def laidWorld (os : Os) : World :=
  { World.holding Tryd.prog os ⟨#[], #[], []⟩ with heap := (World.holding Tryd.prog os ⟨#[], #[], []⟩).heap.modify 0 fun
      | .cells _ t frozen => .cells (ucells kk) t frozen
      | o => o }
end Go.Proofs.YtjjdjdhkfmfchaaDoor

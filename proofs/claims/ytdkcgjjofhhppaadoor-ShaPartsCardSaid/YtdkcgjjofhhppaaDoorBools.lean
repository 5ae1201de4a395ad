/- Slices of bools that came in: what a walk is told of them. -/
import Derived.Test.YtdkcgjjofhhppaaDoorProg
import Derived.WalkKit
import Derived.Deep.Grids
import Derived.Lib.Hide
namespace Go.Proofs.YtdkcgjjofhhppaaDoor
set_option linter.unusedVariables false
set_option linter.unusedSimpArgs false
open Go.RowKit Go.ChangeShapes Go.WideShapes

/-- The value leads to a row of m bools, B 0, B 1, .. -/
def IsBools (w : World) (v : Value) (m : Nat) (B : Nat → Bool) : Prop :=
  ∃ a cap, v = .slice a m cap ∧ m ≤ maxLen ∧ ∀ i, i < m → ∃ b off, a = some ⟨b, off, none⟩ ∧ b < w.heap.size ∧ w.cell? ⟨b, off + i, none⟩ = some (.bool (B i))

theorem isBools_of {H : Type} {enc : TypeId × Value → H} {P : Program} {w : World} {t e : TypeId} {fuel : Nat} {a : Option Addr} {len cap : Nat} {x : DataW H × List MemPlace}
    (ht : P.underlying t = some (.slice e)) (he : P.underlying e = some .bool) (hc : P.cellsOf e = 1)
    (h : DataW.trod enc P w 0 (fun _ => true) true fuel t (Value.slice a len cap).cells.toList = some x) : ∃ m B, IsBools w (.slice a len cap) m B := by
  rcases Go.Deep.open_bools ht he hc h with ⟨hcs, _⟩ | ⟨ad, l, c, B, hcs, _, hl, hm, _, hcell⟩
  · simp [Value.cells] at hcs
    obtain ⟨rfl, rfl, rfl⟩ := hcs
    exact ⟨0, fun _ => false, none, 0, rfl, Nat.zero_le _, fun i hi => by omega⟩
  · simp [Value.cells] at hcs
    obtain ⟨rfl, rfl, rfl⟩ := hcs
    refine ⟨len, B, some ad, cap, rfl, by omega, fun i hi => ?_⟩
    obtain ⟨b, off, sp⟩ := ad
    have hc0 := hcell 0 (by omega)
    have hsp : sp = none := by
      cases sp with
      | none => rfl
      | some q =>
        exfalso
        unfold Addr.add at hc0
        simp only [World.cell?] at hc0
        split at hc0 <;> simp_all
    subst hsp
    replace hc0 := hcell i (by omega)
    have hadd : (⟨b, off, none⟩ : Addr).add i = ⟨b, off + i, none⟩ := by unfold Addr.add; split <;> simp_all
    rw [hadd] at hc0
    exact ⟨b, off, rfl, World.block_lt_of_cell? w _ hc0, hc0⟩
end Go.Proofs.YtdkcgjjofhhppaaDoor

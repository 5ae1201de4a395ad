/- The reference's hexadecimal digits; alive. -/
import Derived.Test.YtkipemkclgamfaaDoorShaR4
import Derived.Test.YtkipemkclgamfaaDoorShaEx
import Derived.Test.YtkipemkclgamfaaDoorBytesStep
import Derived.BigRegion
namespace Go.Proofs.YtkipemkclgamfaaDoor
set_option linter.unusedVariables false
set_option linter.unusedSimpArgs false
open Go.RowKit Sha
theorem get_mk' (l : List UInt8) (i : Nat) (h : i < (ByteArray.mk l.toArray).size) : (ByteArray.mk l.toArray)[i]'h = l[i]'(by simpa [ByteArray.size] using h) := rfl
attribute [local go_sem] get_mk'

def digs : List UInt8 := [48, 49, 50, 51, 52, 53, 54, 55, 56, 57, 97, 98, 99, 100, 101, 102]
theorem two_cell (w : World) (x y : UInt8) : ∀ i (h : i < [x, y].length), (w.alloc (.cells #[.int .u8 (by8 x), .int .u8 (by8 y)] 5)).cell? ⟨w.heap.size, i, none⟩ = some (.int .u8 (by8 [x, y][i])) := by
  intro i hi
  rw [cell_of_row _ _ i _ _ _ (heap_alloc_new w _)]
  have : i < 2 := hi
  obtain rfl | rfl : i = 0 ∨ i = 1 := by omega
  all_goals rfl
theorem hexs_next (s : List UInt8) (i : Nat) (h : i < s.length) : hexs (s.take i) ++ [hexd (s[i].toNat / 16), hexd (s[i].toNat % 16)] = hexs (s.take (i + 1)) := by
  rw [List.take_succ_eq_append_getElem h]
  unfold hexs
  rw [List.flatMap_append, List.flatMap_cons, List.flatMap_nil, List.append_nil]
theorem hexs_length (s : List UInt8) : (hexs s).length = 2 * s.length := by
  induction s with
  | nil => rfl
  | cons x s ih => simp only [hexs, List.flatMap_cons, List.length_append] at ih ⊢; rw [ih]; simp; omega

set_option maxRecDepth 20000 in
set_option maxHeartbeats 4000000 in
theorem hex_any (s : List UInt8) (hl : s.length < 1000000000) (w : World) :
    Calls Tryd.prog 12 #[.string ⟨s.toArray⟩] w fun e w' => e = .returned (.string ⟨(hexs s).toArray⟩) ∧ Below w.heap.size w w' := by
  go_enter Tryd.func12, Tryd.ntmps12
  go_wp2
  go_loopw [4, 5] (fun v x wr => ∃ i : Nat, i ≤ s.length ∧ x = .int .i64 (i : Int) ∧ Hid (OwnB wr w.heap.size v (hexs (s.take i))) ∧ Hid (Below w.heap.size w wr)) (fun _ x _ => s.length - (intOf x).toNat)
  case atStart => exact ⟨0, by omega, rfl, own_nil _ _, Below.refl _ _⟩
  case round =>
    obtain ⟨i, hi, rfl, HO, HB⟩ := hrel
    by_cases hlt : i < s.length
    · have i2 : (i : Int) < (s.length : Int) := by omega
      obtain ⟨a, ha⟩ : ∃ a, a = s[i].toNat / 16 := ⟨_, rfl⟩
      obtain ⟨b, hb⟩ : ∃ b, b = s[i].toNat % 16 := ⟨_, rfl⟩
      have hc := s[i].toNat_lt
      have a16 : a < 16 := by omega
      have b16 : b < 16 := by omega
      have a1 : (s[i].toNat : Int) / 16 = (a : Int) := by omega
      have b1 : (s[i].toNat : Int) % 16 = (b : Int) := by omega
      have a2 : ((s[i].toNat : Int)).tdiv 16 = (a : Int) := by rw [Int.tdiv_eq_ediv_of_nonneg (by omega)]; omega
      have b2 : ((s[i].toNat : Int)).tmod 16 = (b : Int) := by rw [Int.tmod_eq_emod_of_nonneg (by omega)]; omega
      have a3 : IntKind.u8.wrap (a : Int) = (a : Int) := by rw [IntKind.wrap_u8]; omega
      have b3 : IntKind.u8.wrap (b : Int) = (b : Int) := by rw [IntKind.wrap_u8]; omega
      have a4 : (a : Int) < 16 := by omega
      have b4 : (b : Int) < 16 := by omega
      have HA := Lib.hid ha
      have HBB := Lib.hid hb
      clear ha hb hc
      have hda : ∀ h, ([48, 49, 50, 51, 52, 53, 54, 55, 56, 57, 97, 98, 99, 100, 101, 102] : List UInt8)[a]'h = hexd a := fun h => by
        unfold hexd
        rw [List.getD_eq_getElem?_getD, List.getElem?_eq_getElem h]; rfl
      have hdb : ∀ h, ([48, 49, 50, 51, 52, 53, 54, 55, 56, 57, 97, 98, 99, 100, 101, 102] : List UInt8)[b]'h = hexd b := fun h => by
        unfold hexd
        rw [List.getD_eq_getElem?_getD, List.getElem?_eq_getElem h]; rfl
      have HNX := Lib.hid (hexs_next s i hlt)
      rw [← HA.out, ← HBB.out] at HNX
      have HLN : Hid ((hexs (s.take i)).length + 2 ≤ 1099511627776) := by
        show _ ≤ _
        rw [hexs_length, List.length_take]
        omega
      go_wp2_with fail
      go_region_held3 (fun _ => True) (first | trivial) (first | (refine step_append_bytes (by rfl) (.tmp 12) (.tmp 25) (by rfl) w.heap.size _ _ (by rfl) (HO.out.kept ((below_drewN (Below.refl _ _) 1).alloc (Nat.le_refl _) _)) wr.heap.size 2 2 [hexd a, hexd b] (by rfl) rfl (two_cell wr.drew (hexd a) (hexd b)) HLN.out (Nat.le_trans HB.out.size (by simp)) ?_; intro v2 w2 h2 s2 b2; have O2 := Lib.hid h2; have B2 := Lib.hid (b2 _ _ (HB.out.drew.alloc HB.out.size _) (Nat.le_refl _)); clear h2 b2 s2))
      all_goals (rw [HNX.out] at O2; go_wp2; refine ⟨⟨i + 1, by omega, by go_num, O2, B2⟩, by simp [intOf]; omega⟩)
    · obtain rfl : i = s.length := by omega
      rw [List.take_length] at HO
      have hcv := HO.out.conv
      go_wp2
      go_ret
      exact ⟨rfl, HB.out⟩
end Go.Proofs.YtkipemkclgamfaaDoor

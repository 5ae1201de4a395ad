/- An array of 32 bytes that came in as an argument: its cells. -/
import Derived.Test.YtjjdjdhkfmfchaaDoorMakeB
import Derived.OpenShut
namespace Go.Proofs.YtjjdjdhkfmfchaaDoor
set_option linter.unusedVariables false
set_option linter.unusedSimpArgs false
open Go.RowKit Go.ChangeShapes Sha

theorem open_row32 {H : Type} {enc : TypeId × Value → H} {P : Program} {W : World} {base b0 : Nat} {sp : Nat → Bool} {held : Bool} {r : Reach} {t e : TypeId} {v : Value} {d : DataW H} {ps : List MemPlace} (ht : P.underlying t = some (.array 32 e)) (he : P.underlying e = some (.int .u8))
    (h1 : P.cellsOf e = 1) (h32 : P.cellsOf t = 32) (hval : Value.okWide P W r b0 t v) (hd : DataW.Trod enc P W base sp held t v d ps) : ∃ l : List UInt8, l.length = 32 ∧ v = .agg (brow l) := by
  unfold Value.okWide at hval
  rw [ht] at hval
  obtain ⟨cs, rfl, hsz, _⟩ := hval
  obtain ⟨fuel, hf⟩ := hd
  obtain ⟨xs, m, rfl, _, _, hxl, hx⟩ := DataW.trod_array ht hf
  rw [h32] at hsz
  have hcell : ∀ i (h : i < cs.size), ∃ c : UInt8, cs[i] = .int .u8 (by8 c) := by
    intro i hi
    have h := hx i (by omega)
    rw [h1, Nat.mul_one, List.getElem?_eq_getElem (by omega)] at h
    have hv : (Value.agg cs).cells.toList = cs.toList := rfl
    rw [hv] at h
    have e1 : (cs.toList.drop i).take 1 = [cs[i]] := by
      rw [List.drop_eq_getElem_cons (by simpa using hi)]
      rfl
    rw [e1] at h
    obtain ⟨n, hn, _, hw⟩ := DataW.trod_int he h
    have hn2 : cs[i] = .int .u8 n := by simpa using hn
    obtain ⟨b1, b2⟩ := bounds_u8 hw
    refine ⟨UInt8.ofNat n.toNat, ?_⟩
    rw [hn2]
    unfold by8
    have : (UInt8.ofNat n.toNat).toNat = n.toNat := by rw [UInt8.toNat_ofNat']; omega
    rw [this]
    congr 1
    omega
  refine ⟨cs.toList.map (fun v => UInt8.ofNat (intOf v).toNat), by simpa using hsz, ?_⟩
  congr 1
  apply Array.ext
  · rw [brow_size]; simp
  · intro i h1 h2
    obtain ⟨c, hc⟩ := hcell i h1
    have h3 : i < (cs.toList.map (fun v => UInt8.ofNat (intOf v).toNat)).length := by simpa using h1
    have h4 := brow_at _ i h3
    rw [Array.getElem?_eq_getElem h2] at h4
    rw [Option.some.inj h4]
    have h5 : (cs.toList.map (fun v => UInt8.ofNat (intOf v).toNat))[i] = c := by
      rw [List.getElem_map, Array.getElem_toList, hc]
      simp [intOf, by8]
    rw [h5, hc]
end Go.Proofs.YtjjdjdhkfmfchaaDoor

/- The walk of cipher's of: the two keys made of one. -/
import Derived.Test.YtjjdjdhkfmfchaaDoorHmacW2
import Derived.Test.YtjjdjdhkfmfchaaDoorCiphPlain
namespace Go.Proofs.YtjjdjdhkfmfchaaDoor
set_option linter.unusedVariables false
set_option linter.unusedSimpArgs false
open Go.RowKit Sha Ciph

/-- the pair of keys that stands at two blocks. -/
def pairV (a b : Nat) : Array Value := #[.pointer (some ⟨a, 0, none⟩), .pointer (some ⟨b, 0, none⟩)]
theorem pairV_one (a b : Nat) : (pairV a b).all (·.oneCell') = true := by simp [pairV, Value.oneCell']
/-- what `of` answers. -/
def PairOf (key : List UInt8) (w : World) (e : Ending) (w' : World) : Prop :=
  ∃ a b, e = .returned (.agg (pairV a b)) ∧ KeyAt w' a (strK key) ∧ KeyAt w' b (tagK key) ∧ w.heap.size ≤ a ∧ w.heap.size ≤ b ∧ Below w.heap.size w w'

theorem size_pair : (Tryd.prog.info? 36).map (·.size) = some 2 := by kernel_rfl
theorem Holds.type {w : World} {b : Nat} {m : List UInt8} (h : Holds w b m) : ∃ cs fr, w.heap[b]? = some (.cells cs 62 fr) := by
  obtain ⟨_, h1, _⟩ := h
  exact ⟨_, _, h1.block⟩
/-- a turn of a block that holds a pair of keys. -/
theorem KeyAt.other {w w' : World} {b g : Nat} {k : List UInt8} {cs : Array Value} {fr : Nat × Nat} (h : KeyAt w b k) (hg : w.heap[g]? = some (.cells cs 36 fr)) (he : ∀ j, j ≠ g → w'.heap[j]? = w.heap[j]?) : KeyAt w' b k := by
  obtain ⟨i, o, h1, h2, h3⟩ := h
  have hb : b ≠ g := fun e => by rw [e, hg] at h1; simp at h1
  obtain ⟨c2, f2, k2⟩ := h2.type
  obtain ⟨c3, f3, k3⟩ := h3.type
  have hi : i ≠ g := fun e => by rw [e, hg] at k2; simp at k2
  have ho : o ≠ g := fun e => by rw [e, hg] at k3; simp at k3
  exact ⟨i, o, (he _ hb).trans h1, h2.kept (he _ hi), h3.kept (he _ ho)⟩

set_option maxRecDepth 20000 in
set_option maxHeartbeats 4000000 in
theorem cof_any (key : List UInt8) (w : World) (hkl : KLaid w) (hl : key.length < 1000000000) :
    Calls Tryd.prog 14 #[.string ⟨key.toArray⟩] w (PairOf key w) := by
  have HK := Lib.hid hkl
  clear hkl
  have HS : Hid (strK key = hmac key [115, 116, 114, 101, 97, 109]) := rfl
  have HT : Hid (tagK key = hmac key [116, 97, 103]) := rfl
  have l1 : (strK key).length < 1000000000 := by unfold strK; rw [hmac_length]; omega
  have l2 : (tagK key).length < 1000000000 := by unfold tagK; rw [hmac_length]; omega
  have HL1 := Lib.hid l1
  have HL2 := Lib.hid l2
  clear l1 l2
  go_enter Tryd.func14, Tryd.ntmps14
  go_wp2_with fail
  have B0 : Hid (Below w.heap.size w (w.alloc (.cells #[.pointer none, .pointer none] 36))) := (Below.refl _ _).alloc (Nat.le_refl _) _
  have R0 := Lib.hid (heap_alloc_new w (.cells #[.pointer none, .pointer none] 36))
  generalize w.alloc (.cells #[.pointer none, .pointer none] 36) = w0 at *
  refine (hmac_any key [115, 116, 114, 101, 97, 109] w0 (HK.out.below B0.out) hl (by decide)).mono ?_; rintro e w1 ⟨rfl, b1⟩
  rw [← HS.out]
  have B1 := Lib.hid (below_more B0.out b1 B0.out.size)
  have R1 := Lib.hid ((b1.block _ (lt_of_block R0.out)).trans R0.out)
  clear b1
  go_wp2_with fail
  refine (newkey_any (strK key) w1 (HK.out.below B1.out) HL1.out).mono ?_; rintro e w2 ⟨a, rfl, ha, la, b2⟩
  have B2 := Lib.hid (below_more B1.out b2 B1.out.size)
  have R2 := Lib.hid ((b2.block _ (lt_of_block R1.out)).trans R1.out)
  have HA2 := Lib.hid ha
  have LA := Lib.hid (Nat.lt_of_lt_of_le (lt_of_block R1.out) la)
  clear b2 ha la
  go_wp2_with fail
  refine (hmac_any key [116, 97, 103] w2 (HK.out.below B2.out) hl (by decide)).mono ?_; rintro e w3 ⟨rfl, b3⟩
  rw [← HT.out]
  have B3 := Lib.hid (below_more B2.out b3 B2.out.size)
  have R3 := Lib.hid ((b3.block _ (lt_of_block R2.out)).trans R2.out)
  have HA3 : Hid (KeyAt w3 a (strK key)) := HA2.out.below b3
  clear b3
  go_wp2_with fail
  refine (newkey_any (tagK key) w3 (HK.out.below B3.out) HL2.out).mono ?_; rintro e w4 ⟨b, rfl, hb, lb, b4⟩
  have B4 := Lib.hid (below_more B3.out b4 B3.out.size)
  have R4 := Lib.hid ((b4.block _ (lt_of_block R3.out)).trans R3.out)
  have HA4 : Hid (KeyAt w4 a (strK key)) := HA3.out.below b4
  have HB4 := Lib.hid hb
  have LB := Lib.hid (Nat.lt_of_lt_of_le (lt_of_block R3.out) lb)
  clear b4 hb lb
  have HSZ := Lib.hid size_pair
  go_wp2_with (refine wpList_store_row (o := ⟨none, .store 36 (.tmp 2) (.tmp 9), _, _, _, _⟩) rfl 36 (.tmp 2) (.tmp 9) rfl w.heap.size rfl (pairV a b) #[.pointer none, .pointer none] rfl _ R4.out rfl HSZ.out (pairV_one a b) ?_)
  exact bodyPost_ret (v := .agg (pairV a b)) (results_cell_row Tryd.results14 _ _ w.heap.size _ _ _ _ rfl (setRow_heap w4 w.heap.size _ (pairV a b) _ _ R4.out) Tryd.underlying36 rfl HSZ.out) rfl ⟨a, b, rfl, HA4.out.other R4.out (fun j hj => setRow_other w4 _ j _ hj), HB4.out.other R4.out (fun j hj => setRow_other w4 _ j _ hj), Nat.le_of_lt LA.out, Nat.le_of_lt LB.out, B4.out.trans ⟨rfl, rfl, rfl, by simp [World.setRow], fun k hk => setRow_other w4 _ k _ (by omega)⟩⟩
end Go.Proofs.YtjjdjdhkfmfchaaDoor

/- The walks of hmac.New, over, (*hmac.Key).Sum, hmac.Sum. -/
import Derived.Test.YtjjdjdhkfmfchaaDoorHmacW1
import Derived.Test.YtjjdjdhkfmfchaaDoorHolds
import Derived.Deep.RegionHeld3
namespace Go.Proofs.YtjjdjdhkfmfchaaDoor
set_option linter.unusedVariables false
set_option linter.unusedSimpArgs false
open Go.RowKit Sha

/-- block b holds the key k, ready. -/
def KeyAt (w : World) (b : Nat) (k : List UInt8) : Prop :=
  ∃ i o, w.heap[b]? = some (.cells #[.pointer (some ⟨i, 0, none⟩), .pointer (some ⟨o, 0, none⟩)] 47 (0, 0)) ∧ Holds w i (xorAll (key64 k) 54) ∧ Holds w o (xorAll (key64 k) 92)
theorem KeyAt.lt {w : World} {b : Nat} {k : List UInt8} (h : KeyAt w b k) : b < w.heap.size := by obtain ⟨_, _, h, _⟩ := h; exact lt_of_block h
theorem KeyAt.kept {w w' : World} {b : Nat} {k : List UInt8} (h : KeyAt w b k) (he : ∀ j, j < w.heap.size → w'.heap[j]? = w.heap[j]?) : KeyAt w' b k := by
  obtain ⟨i, o, h1, h2, h3⟩ := h
  exact ⟨i, o, (he _ (lt_of_block h1)).trans h1, h2.kept (he _ h2.lt), h3.kept (he _ h3.lt)⟩
theorem KeyAt.below {w w' : World} {b : Nat} {k : List UInt8} (h : KeyAt w b k) (hb : Below w.heap.size w w') : KeyAt w' b k := h.kept (fun j hj => hb.block j hj)
/-- what New answers. -/
def NewKey (w : World) (k : List UInt8) (e : Ending) (w' : World) : Prop := ∃ b, e = .returned (.pointer (some ⟨b, 0, none⟩)) ∧ KeyAt w' b k ∧ w.heap.size ≤ b ∧ Below w.heap.size w w'

set_option maxRecDepth 20000 in
set_option maxHeartbeats 4000000 in
theorem newkey_any (k : List UInt8) (w : World) (hkl : KLaid w) (hl : k.length < 1000000000) :
    Calls Tryd.prog 20 #[.string ⟨k.toArray⟩] w (NewKey w k) := by
  have HK := Lib.hid hkl
  clear hkl
  by_cases hk : 64 < k.length
  · have HKE : Hid (key64 k = pad64 (sha k)) := by show _ = _; unfold key64; rw [short64_long hk]
    have HKL : Hid ((sha k).length ≤ 64) := by show _ ≤ _; rw [sha_length]; omega
    go_enter Tryd.func20, Tryd.ntmps20
    go_wp2_with fail
    refine (shaSum_any k w HK.out (by omega)).mono ?_; rintro e W0 ⟨rfl, b0⟩
    have HB0 := Lib.hid b0
    clear b0
    generalize sha k = key at *
    go_wp2_with fail
    refine (keyturner_any 54 W0).mono ?_; rintro e w1 ⟨rfl, rfl⟩
    have HB1 : Hid (Below w.heap.size w (W0.alloc (.cells #[.int .u8 (by8 54)] 5))) := HB0.out.alloc HB0.out.size _
    go_wp2_with fail
    refine (with_any key HKL.out W0.heap.size 54 _ (by rw [cell_of_row _ _ _ _ _ _ (heap_alloc_new W0 _)]; rfl) (HK.out.below HB1.out)).mono ?_
    rintro e w2 ⟨ha, rfl, h2, l2, b2⟩
    have H2 := Lib.hid h2
    have HB2 := Lib.hid (HB1.out.trans (b2.mono HB1.out.size))
    have L2 := Lib.hid (Nat.le_trans HB1.out.size l2)
    clear h2 b2 l2
    go_wp2_with fail
    refine (keyturner_any 92 w2).mono ?_; rintro e w3 ⟨rfl, rfl⟩
    have HB3 : Hid (Below w.heap.size w (w2.alloc (.cells #[.int .u8 (by8 92)] 5))) := HB2.out.alloc HB2.out.size _
    have H3 := Lib.hid (H2.out.kept (heap_alloc_old w2 (.cells #[.int .u8 (by8 92)] 5) H2.out.lt))
    go_wp2_with fail
    refine (with_any key HKL.out w2.heap.size 92 _ (by rw [cell_of_row _ _ _ _ _ _ (heap_alloc_new w2 _)]; rfl) (HK.out.below HB3.out)).mono ?_
    rintro e w4 ⟨hb, rfl, h4, l4, b4⟩
    have H4 := Lib.hid h4
    have H5 := Lib.hid (H3.out.below b4)
    have HB4 := Lib.hid (HB3.out.trans (b4.mono HB3.out.size))
    clear h4 b4 l4
    go_wp2_with fail
    go_ret
    exact ⟨_, rfl, ⟨ha, hb, World.alloc_heap_new w4 _, by rw [HKE.out]; exact H5.out.kept (heap_alloc_old w4 _ H5.out.lt), by rw [HKE.out]; exact H4.out.kept (heap_alloc_old w4 _ H4.out.lt)⟩, HB4.out.size, HB4.out.alloc HB4.out.size _⟩
  · have HKE : Hid (key64 k = pad64 k) := by show _ = _; unfold key64; rw [short64_short (by omega)]
    have HKL : Hid (k.length ≤ 64) := by show _ ≤ _; omega
    obtain ⟨key, hkey⟩ : ∃ key, key = k := ⟨k, rfl⟩
    obtain ⟨W0, hW0⟩ : ∃ W0, W0 = w := ⟨w, rfl⟩
    have HB0 : Hid (Below w.heap.size w W0) := by rw [hW0]; exact Below.refl _ _
    rw [show k = key from hkey.symm] at HKE HKL hk ⊢
    clear hkey hl
    rw [show Calls Tryd.prog 20 #[.string ⟨key.toArray⟩] w = Calls Tryd.prog 20 #[.string ⟨key.toArray⟩] W0 by rw [hW0]]
    clear hW0
    go_enter Tryd.func20, Tryd.ntmps20
    go_wp2_with fail
    refine (keyturner_any 54 W0).mono ?_; rintro e w1 ⟨rfl, rfl⟩
    have HB1 : Hid (Below w.heap.size w (W0.alloc (.cells #[.int .u8 (by8 54)] 5))) := HB0.out.alloc HB0.out.size _
    go_wp2_with fail
    refine (with_any key HKL.out W0.heap.size 54 _ (by rw [cell_of_row _ _ _ _ _ _ (heap_alloc_new W0 _)]; rfl) (HK.out.below HB1.out)).mono ?_
    rintro e w2 ⟨ha, rfl, h2, l2, b2⟩
    have H2 := Lib.hid h2
    have HB2 := Lib.hid (HB1.out.trans (b2.mono HB1.out.size))
    have L2 := Lib.hid (Nat.le_trans HB1.out.size l2)
    clear h2 b2 l2
    go_wp2_with fail
    refine (keyturner_any 92 w2).mono ?_; rintro e w3 ⟨rfl, rfl⟩
    have HB3 : Hid (Below w.heap.size w (w2.alloc (.cells #[.int .u8 (by8 92)] 5))) := HB2.out.alloc HB2.out.size _
    have H3 := Lib.hid (H2.out.kept (heap_alloc_old w2 (.cells #[.int .u8 (by8 92)] 5) H2.out.lt))
    go_wp2_with fail
    refine (with_any key HKL.out w2.heap.size 92 _ (by rw [cell_of_row _ _ _ _ _ _ (heap_alloc_new w2 _)]; rfl) (HK.out.below HB3.out)).mono ?_
    rintro e w4 ⟨hb, rfl, h4, l4, b4⟩
    have H4 := Lib.hid h4
    have H5 := Lib.hid (H3.out.below b4)
    have HB4 := Lib.hid (HB3.out.trans (b4.mono HB3.out.size))
    clear h4 b4 l4
    go_wp2_with fail
    go_ret
    exact ⟨_, rfl, ⟨ha, hb, World.alloc_heap_new w4 _, by rw [HKE.out]; exact H5.out.kept (heap_alloc_old w4 _ H5.out.lt), by rw [HKE.out]; exact H4.out.kept (heap_alloc_old w4 _ H4.out.lt)⟩, HB4.out.size, HB4.out.alloc HB4.out.size _⟩

theorem over_any (i : Nat) (m s : List UInt8) (w : World) (h : Holds w i m) (hk : KLaid w) (hl : m.length + s.length < 1000000000000) :
    Calls Tryd.prog 23 #[.agg #[.pointer (some ⟨i, 0, none⟩)], .string ⟨s.toArray⟩] w fun e w' => e = .returned (.string ⟨(sha (m ++ s)).toArray⟩) ∧ Below w.heap.size w w' := by
  have HK := Lib.hid hk
  have H0 : Hid (Holds (w.alloc (.cells #[.pointer (some ⟨i, 0, none⟩)] 45)) i m) := h.kept (heap_alloc_old w _ h.lt)
  have HB0 : Hid (Below w.heap.size w (w.alloc (.cells #[.pointer (some ⟨i, 0, none⟩)] 45))) := (Below.refl _ _).alloc (Nat.le_refl _) _
  clear h hk
  go_enter Tryd.func23, Tryd.ntmps23
  go_wp2_with fail
  refine (copy_some i m _ H0.out).mono ?_; rintro e w1 ⟨rfl, h1, b1, s1⟩
  have H1 := Lib.hid h1
  have HB1 := Lib.hid (HB0.out.trans (b1.mono HB0.out.size))
  have HG : Hid ((w.alloc (.cells #[.pointer (some ⟨i, 0, none⟩)] 45)).heap.size ≠ 0) := by have := (HK.out.below HB0.out).lt; show _ ≠ _; omega
  have HGE := Lib.hid HB0.out.size
  clear h1 b1 s1 H0 HB0
  generalize (w.alloc (.cells #[.pointer (some ⟨i, 0, none⟩)] 45)).heap.size = c at *
  go_wp2_with fail
  refine (write_some c m s w1 H1.out (HK.out.below HB1.out) HG.out (by omega)).mono ?_; rintro e w2 ⟨rfl, h2, g2⟩
  have H2 := Lib.hid h2
  have HB2 := Lib.hid (HB1.out.grown g2 HB1.out.size (fun k hk => by have := Option.some.inj hk; have := HGE.out; omega))
  clear h2 g2
  go_wp2_with fail
  refine (sum_some c (m ++ s) w2 H2.out (HK.out.below HB2.out) (by simpa using hl)).mono ?_; rintro e w3 ⟨rfl, b3⟩
  go_wp2_with fail
  go_ret
  exact ⟨rfl, HB2.out.trans (b3.mono HB2.out.size)⟩

/-- what the cells of a key hold. -/
theorem KeyAt.cells {w : World} {b : Nat} {k : List UInt8} (h : KeyAt w b k) : ∃ i o, w.cell? ⟨b, 0, none⟩ = some (.pointer (some ⟨i, 0, none⟩)) ∧ w.cell? ⟨b, 1, none⟩ = some (.pointer (some ⟨o, 0, none⟩)) ∧ Holds w i (xorAll (key64 k) 54) ∧ Holds w o (xorAll (key64 k) 92) := by
  obtain ⟨i, o, h1, h2, h3⟩ := h
  exact ⟨i, o, by rw [cell_of_row _ _ _ _ _ _ h1]; rfl, by rw [cell_of_row _ _ _ _ _ _ h1]; rfl, h2, h3⟩

set_option maxRecDepth 20000 in
set_option maxHeartbeats 4000000 in
theorem keysum_any (b : Nat) (k s : List UInt8) (w : World) (h : KeyAt w b k) (hkl : KLaid w) (hl : s.length < 1000000000) :
    Calls Tryd.prog 16 #[.pointer (some ⟨b, 0, none⟩), .string ⟨s.toArray⟩] w fun e w' => e = .returned (.string ⟨(hmac k s).toArray⟩) ∧ Below w.heap.size w w' := by
  have HK := Lib.hid hkl
  have HE : Hid (hmac k s = sha (xorAll (key64 k) 92 ++ sha (xorAll (key64 k) 54 ++ s))) := rfl
  have HBL := Lib.hid h.lt
  have l1 : (xorAll (key64 k) 54).length = 64 := by rw [xorAll_length, key64_length]
  have l2 : (xorAll (key64 k) 92).length = 64 := by rw [xorAll_length, key64_length]
  obtain ⟨i, o, hc0, hc1, h2, h3⟩ := h.cells
  have HC0 := Lib.hid hc0
  have HC1 := Lib.hid hc1
  have HI := Lib.hid h2
  have HO := Lib.hid h3
  have L1 := Lib.hid l1
  have L2 := Lib.hid l2
  clear h h2 h3 hkl l1 l2
  generalize xorAll (key64 k) 54 = mi at *
  generalize xorAll (key64 k) 92 = mo at *
  have HL1 : Hid (mi.length + s.length < 1000000000000) := by have := L1.out; show _ < _; omega
  have HL2 : Hid (mo.length + (sha (mi ++ s)).length < 1000000000000) := by have := L2.out; have := sha_length (mi ++ s); show _ < _; omega
  have HID : Hid (Holds w.drew i mi) := HI.out.kept rfl
  have HKD : Hid (KLaid w.drew) := HK.out.kept rfl
  have hd0 : w.drew.cell? ⟨b, 0, none⟩ = some (.pointer (some ⟨i, 0, none⟩)) := HC0.out
  have hd1 : w.drew.cell? ⟨b, 1, none⟩ = some (.pointer (some ⟨o, 0, none⟩)) := HC1.out
  go_enter Tryd.func16, Tryd.ntmps16
  go_wp2_with fail
  go_region_held3 (fun w' => w'.cell? ⟨b, 0, none⟩ = some (.pointer (some ⟨i, 0, none⟩)) ∧ w'.cell? ⟨b, 1, none⟩ = some (.pointer (some ⟨o, 0, none⟩))) (constructor <;> assumption) (first
    | (go_at_call 23; (with_reducible refine (over_any i mi s _ HID.out HKD.out HL1.out).mono ?_); rintro e w5 ⟨rfl, b5⟩; replace b5 := (Below.refl w.heap.size w).drew.trans b5; have hc5 : w5.cell? ⟨b, 0, none⟩ = some (.pointer (some ⟨i, 0, none⟩)) := (b5.cell (p := ⟨b, 0, none⟩) HBL.out).trans HC0.out; have hc6 : w5.cell? ⟨b, 1, none⟩ = some (.pointer (some ⟨o, 0, none⟩)) := (b5.cell (p := ⟨b, 1, none⟩) HBL.out).trans HC1.out; have B5 := Lib.hid b5; clear b5)
    | (go_at_call 23; (with_reducible refine (over_any o mo (sha (mi ++ s)) _ (HO.out.below B5.out) (HK.out.below B5.out) HL2.out).mono ?_); rintro e w7 ⟨rfl, b7⟩; have hc7 : w7.cell? ⟨b, 0, none⟩ = some (.pointer (some ⟨i, 0, none⟩)) := (b7.cell (p := ⟨b, 0, none⟩) (Nat.lt_of_lt_of_le HBL.out B5.out.size)).trans hc5; have hc8 : w7.cell? ⟨b, 1, none⟩ = some (.pointer (some ⟨o, 0, none⟩)) := (b7.cell (p := ⟨b, 1, none⟩) (Nat.lt_of_lt_of_le HBL.out B5.out.size)).trans hc6; have B7 := Lib.hid b7; clear b7)
    | fail)
  all_goals
    go_wp2
    go_ret
    exact ⟨congrArg (fun l : List UInt8 => Ending.returned (.string ⟨l.toArray⟩)) HE.out.symm, B5.out.trans (B7.out.mono B5.out.size)⟩
/-- no key answers the empty text. -/
theorem keysum_none (s : List UInt8) (w : World) :
    Calls Tryd.prog 16 #[.pointer none, .string ⟨s.toArray⟩] w fun e w' => e = .returned (.string ⟨#[]⟩) ∧ w = w' := by
  go_enter Tryd.func16, Tryd.ntmps16
  go_wp2
  go_ret
  exact ⟨rfl, rfl⟩

set_option maxRecDepth 20000 in
/-- the tag of a text under a key. -/
theorem hmac_any (k s : List UInt8) (w : World) (hkl : KLaid w) (hk : k.length < 1000000000) (hl : s.length < 1000000000) :
    Calls Tryd.prog 21 #[.string ⟨k.toArray⟩, .string ⟨s.toArray⟩] w fun e w' => e = .returned (.string ⟨(hmac k s).toArray⟩) ∧ Below w.heap.size w w' := by
  have HK := Lib.hid hkl
  clear hkl
  go_enter Tryd.func21, Tryd.ntmps21
  go_wp2_with fail
  refine (newkey_any k w HK.out hk).mono ?_; rintro e w1 ⟨b, rfl, hb, lb, b1⟩
  have HB1 := Lib.hid b1
  have HKA := Lib.hid hb
  clear hb lb b1
  go_wp2_with fail
  refine (keysum_any b k s w1 HKA.out (HK.out.below HB1.out) hl).mono ?_; rintro e w2 ⟨rfl, b2⟩
  go_wp2_with fail
  go_ret
  exact ⟨rfl, HB1.out.trans (b2.mono HB1.out.size)⟩
end Go.Proofs.YtjjdjdhkfmfchaaDoor

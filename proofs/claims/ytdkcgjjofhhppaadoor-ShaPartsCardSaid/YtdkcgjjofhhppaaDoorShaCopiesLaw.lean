/- The walk of the law ShaCopies. -/
import Derived.Test.YtdkcgjjofhhppaaDoorShaAlive
namespace Go.Proofs.YtdkcgjjofhhppaaDoor
set_option linter.unusedVariables false
set_option linter.unusedSimpArgs false
open Go.RowKit Sha
attribute [local irreducible] Sha.sha Sha.hexs
attribute [local go_sem] ByteArray.mk_append_mk
theorem len_some (b : Nat) (m : List UInt8) (w : World) (h : Holds w b m) :
    Calls Tryd.prog 12 #[.pointer (some ⟨b, 0, none⟩)] w fun e w' => e = .returned (.int .i64 m.length) ∧ w = w' := by
  obtain ⟨wait, h, _⟩ := h
  exact len_any b _ wait _ w h
theorem len_at (b : Nat) (m : List UInt8) (n : Int) (w : World) (h : Holds w b m) (hn : (m.length : Int) = n) :
    Calls Tryd.prog 12 #[.pointer (some ⟨b, 0, none⟩)] w fun e w' => e = .returned (.int .i64 n) ∧ w = w' := by
  rw [← hn]; exact len_some b m w h
theorem Holds.below {w w' : World} {b : Nat} {m : List UInt8} (h : Holds w b m) (hb : Below w.heap.size w w') : Holds w' b m := h.kept (hb.block _ h.lt)
theorem Holds.other {w w' : World} {b c : Nat} {m : List UInt8} (h : Holds w b m) (hg : w.grownBy w' (some c)) (hne : b ≠ c) : Holds w' b m := h.kept (hg.block _ h.lt (fun e => hne (Option.some.inj e)))
theorem below_more {B : Nat} {w a b : World} (h : Below B w a) (k : Below a.heap.size a b) (hB : B ≤ a.heap.size) : Below B w b := h.trans (k.mono hB)

set_option maxRecDepth 20000 in
set_option maxHeartbeats 2000000 in
theorem law_ShaCopies (s : List UInt8) (hs : s.length ≤ maxLen) (a : List UInt8) (ha : a.length ≤ maxLen) (b : List UInt8) (hb : b.length ≤ maxLen) (w : World) (hk : KLaid w) :
    Calls Tryd.prog 6 #[.string ⟨s.toArray⟩, .string ⟨a.toArray⟩, .string ⟨b.toArray⟩] w fun e w' => e = .returned (.bool true) ∧ Below w.heap.size w w' := by
  have HK := Lib.hid hk
  have hkl := hk.lt
  have HG := Lib.hid (show w.heap.size ≠ 0 by omega)
  clear hk hs ha hb hkl
  have key : ∀ (A B C : Bool), A = decide ((4096 : Int) < (s.length : Int)) → B = decide ((4096 : Int) < (a.length : Int)) → C = decide ((4096 : Int) < (b.length : Int)) → (A || B || C) = true →
      Calls Tryd.prog 6 #[.string ⟨s.toArray⟩, .string ⟨a.toArray⟩, .string ⟨b.toArray⟩] w fun e w' => e = .returned (.bool true) ∧ Below w.heap.size w w' := by
    intro A B C hA hB hC hABC
    cases A <;> cases B <;> cases C <;> first | (cases hABC; done) | skip
    all_goals (
      replace hA := hA.symm
      replace hB := hB.symm
      replace hC := hC.symm
      go_enter Tryd.func6, Tryd.ntmps6
      go_wp2_with (go_at_call 7; refine (alive_any w HK.out).mono ?_; rintro e w1 ⟨rfl, b1⟩)
      go_ret
      exact ⟨rfl, b1⟩)
  by_cases hl : 4096 < s.length ∨ 4096 < a.length ∨ 4096 < b.length
  · exact key _ _ _ rfl rfl rfl (by simp only [Bool.or_eq_true, decide_eq_true_iff]; omega)
  · have l1 : decide ((4096 : Int) < (s.length : Int)) = false := by rw [decide_eq_false_iff_not]; omega
    have l2 : decide ((4096 : Int) < (a.length : Int)) = false := by rw [decide_eq_false_iff_not]; omega
    have l3 : decide ((4096 : Int) < (b.length : Int)) = false := by rw [decide_eq_false_iff_not]; omega
    have m1 : (s.length : Int) ≤ 4096 := by omega
    have m2 : (a.length : Int) ≤ 4096 := by omega
    have m3 : (b.length : Int) ≤ 4096 := by omega
    clear key hl
    go_enter Tryd.func6, Tryd.ntmps6
    go_wp2_with (go_at_call 15; refine (new_some w).mono ?_; rintro e w1 ⟨rfl, h1, b1, s1⟩; have H1 := Lib.hid h1; have B1 := Lib.hid b1; have S1 := Lib.hid s1; clear h1 b1 s1)
    go_wp2_with (go_at_call 10; refine (write_some w.heap.size [] s w1 H1.out (HK.out.below B1.out) HG.out (by simp; omega)).mono ?_; rintro e w2 ⟨rfl, h2, g2⟩; have H2 := Lib.hid h2; have B2 := Lib.hid (B1.out.grown g2 B1.out.size (fun k hk => Nat.le_of_eq (Option.some.inj hk))); have S2 := Lib.hid g2.size; clear h2 g2)
    rw [List.nil_append] at H2
    have HC := Lib.hid (show w2.heap.size ≠ w.heap.size by have := H2.out.lt; omega)
    go_wp2_with (go_at_call 13; refine (copy_some w.heap.size s w2 H2.out).mono ?_; rintro e w3 ⟨rfl, h3, b3, s3⟩; have C3 := Lib.hid h3; have H3 := Lib.hid (H2.out.below b3); have B3 := Lib.hid (below_more B2.out b3 B2.out.size); clear h3 b3 s3)
    have HCL := Lib.hid B2.out.size
    have HGC := Lib.hid (show w2.heap.size ≠ 0 by have := (HK.out.below B2.out).lt; omega)
    generalize w2.heap.size = c at *
    go_wp2_with fail
    refine (write_some w.heap.size s a w3 H3.out (HK.out.below B3.out) HG.out (by omega)).mono ?_; rintro e w4 ⟨rfl, h4, g4⟩
    have H4 := Lib.hid h4; have C4 := Lib.hid (C3.out.other g4 HC.out); have B4 := Lib.hid (B3.out.grown g4 B3.out.size (fun k hk => Nat.le_of_eq (Option.some.inj hk))); clear h4 g4
    go_wp2_with fail
    refine (write_some c s b w4 C4.out (HK.out.below B4.out) HGC.out (by omega)).mono ?_; rintro e w5 ⟨rfl, h5, g5⟩
    have C5 := Lib.hid h5; have H5 := Lib.hid (H4.out.other g5 (Ne.symm HC.out)); have B5 := Lib.hid (B4.out.grown g5 B4.out.size (fun k hk => by have := HCL.out; have := Option.some.inj hk; omega)); clear h5 g5
    go_wp2_with fail
    refine (write_some w.heap.size (s ++ a) b w5 H5.out (HK.out.below B5.out) HG.out (by simp; omega)).mono ?_; rintro e w6 ⟨rfl, h6, g6⟩
    rw [List.append_assoc] at h6; have H6 := Lib.hid h6; have C6 := Lib.hid (C5.out.other g6 HC.out); have B6 := Lib.hid (B5.out.grown g6 B5.out.size (fun k hk => Nat.le_of_eq (Option.some.inj hk))); clear h6 g6
    go_wp2_with fail
    refine (sum_some w.heap.size (s ++ (a ++ b)) w6 H6.out (HK.out.below B6.out) (by simp; omega)).mono ?_; rintro e w7 ⟨rfl, b7⟩
    have H7 := Lib.hid (H6.out.below b7); have C7 := Lib.hid (C6.out.below b7); have B7 := Lib.hid (below_more B6.out b7 B6.out.size); clear b7
    go_wp2_with fail
    refine (shaSum_any (s ++ (a ++ b)) w7 (HK.out.below B7.out) (by simp; omega)).mono ?_; rintro e w8 ⟨rfl, b8⟩
    have H8 := Lib.hid (H7.out.below b8); have C8 := Lib.hid (C7.out.below b8); have B8 := Lib.hid (below_more B7.out b8 B7.out.size); clear b8
    go_wp2_with fail
    refine (sum_some c (s ++ b) w8 C8.out (HK.out.below B8.out) (by simp; omega)).mono ?_; rintro e w9 ⟨rfl, b9⟩
    have H9 := Lib.hid (H8.out.below b9); have C9 := Lib.hid (C8.out.below b9); have B9 := Lib.hid (below_more B8.out b9 B8.out.size); clear b9
    go_wp2_with fail
    refine (shaSum_any (s ++ b) w9 (HK.out.below B9.out) (by simp; omega)).mono ?_; rintro e w10 ⟨rfl, b10⟩
    have H10 := Lib.hid (H9.out.below b10); have C10 := Lib.hid (C9.out.below b10); have B10 := Lib.hid (below_more B9.out b10 B9.out.size); clear b10
    go_wp2_with fail
    refine (len_at w.heap.size _ ((s.length : Int) + a.length + b.length) w10 H10.out (by simp; omega)).mono ?_; rintro e w11 ⟨rfl, rfl⟩
    go_wp2_with fail
    refine (len_at c _ ((s.length : Int) + b.length) w10 C10.out (by simp)).mono ?_; rintro e w11 ⟨rfl, rfl⟩
    go_wp2_with fail
    refine (alive_any w10 (HK.out.below B10.out)).mono ?_; rintro e w11 ⟨rfl, b11⟩
    have B11 := Lib.hid (below_more B10.out b11 B10.out.size); clear b11
    go_wp2_with fail
    go_ret
    exact ⟨rfl, B11.out⟩
end Go.Proofs.YtdkcgjjofhhppaaDoor

/- The walk of the law ChainScans. -/
import Derived.Test.YtdmoolfalcdbjaaDoorAudit
import Derived.Test.YtdmoolfalcdbjaaDoorScanR
import Derived.Test.YtdmoolfalcdbjaaDoorOctW6
import Derived.Test.YtdmoolfalcdbjaaDoorChainW4
namespace Go.Proofs.YtdmoolfalcdbjaaDoor
set_option linter.unusedVariables false
set_option linter.unusedSimpArgs false
open Go.RowKit Sha Chain

theorem scan_three (s : List UInt8) : ∃ a b c, scanR s = (a, b, c) := ⟨_, _, _, rfl⟩
theorem scan_at {s : List UInt8} {a : List (List UInt8)} {b : List UInt8} {c : Nat} (hs : s.length < 100000000) (h : scanR s = (a, b, c)) (w : World) (hk : KLaid w) :
    Calls Tryd.prog 9 #[.string ⟨s.toArray⟩] w fun e w' => ∃ lv, e = .returned (.tuple #[lv, .string ⟨b.toArray⟩, .int .i64 c]) ∧ IsStrs w' lv a ∧ Below w.heap.size w w' := by
  have := scan_any s hs w hk
  unfold Scanned at this
  rw [h] at this
  exact this
theorem rscan_at {s : List UInt8} {a : List (List UInt8)} {b : List UInt8} {c : Nat} (hs : s.length < 100000000) (h : scanR s = (a, b, c)) (w : World) :
    Calls Tryd.prog 10 #[.string ⟨s.toArray⟩] w fun e w' => ∃ lv, e = .returned (.tuple #[lv, .string ⟨b.toArray⟩, .int .i64 c]) ∧ IsStrs w' lv a ∧ Below w.heap.size w w' := by
  have := rscan_any s hs w
  rw [h] at this
  exact this
theorem audit_at {s h : List UInt8} {x : Bool} (hs : s.length < 100000000) (hx : auditR s h = x) (w : World) (hk : KLaid w) :
    Calls Tryd.prog 12 #[.string ⟨s.toArray⟩, .string ⟨h.toArray⟩] w fun e w' => e = .returned (.bool x) ∧ Below w.heap.size w w' := by
  have := audit_any s h hs w hk
  rw [hx] at this
  exact this
theorem same_same (v u : Value) (a : List (List UInt8)) (w : World) (hv : IsStrs w v a) (hu : IsStrs w u a) :
    Calls Tryd.prog 11 #[v, u] w fun e w' => e = .returned (.bool true) ∧ Below w.heap.size w w' := by
  have := same_any v u a a w hv hu
  rw [show sameB a a = true by unfold sameB; rw [decide_eq_true_iff]] at this
  exact this

set_option maxRecDepth 20000 in
set_option maxHeartbeats 4000000 in
theorem law_ChainScans (s : List UInt8) (hs0 : s.length ≤ maxLen) (h : List UInt8) (hh0 : h.length ≤ maxLen) (w : World) (hk : KLaid w) :
    Calls Tryd.prog 3 #[.string ⟨s.toArray⟩, .string ⟨h.toArray⟩] w fun e w' => e = .returned (.bool true) ∧ Below w.heap.size w w' := by
  unfold maxLen at hs0 hh0
  have HK := Lib.hid hk
  have HA := Lib.hid fun (W : World) (b : Below w.heap.size w W) => alive_any W (HK.out.below b)
  clear hk
  by_cases h1 : 16384 < s.length
  · have h1i : (16384 : Int) < s.length := by omega
    go_enter Tryd.func3, Tryd.ntmps3
    go_wp2_with fail
    refine (HA.out w (Below.refl _ _)).mono ?_; rintro e w1 ⟨rfl, b1⟩
    go_wp2_with fail
    go_ret
    exact ⟨rfl, b1⟩
  · have h1i : decide ((16384 : Int) < s.length) = false := by rw [decide_eq_false_iff_not]; omega
    have h1n : ¬ (16384 : Int) < s.length := by omega
    by_cases h2 : 1024 < h.length
    · have h2i : (1024 : Int) < h.length := by omega
      go_enter Tryd.func3, Tryd.ntmps3
      go_wp2_with fail
      refine (HA.out w (Below.refl _ _)).mono ?_; rintro e w1 ⟨rfl, b1⟩
      go_wp2_with fail
      go_ret
      exact ⟨rfl, b1⟩
    · have h2i : decide ((1024 : Int) < h.length) = false := by rw [decide_eq_false_iff_not]; omega
      have h2n : ¬ (1024 : Int) < h.length := by omega
      obtain ⟨rl, m, p, hsc⟩ := scan_three s
      have HSC := Lib.hid hsc
      have HSN := Lib.hid fun (W : World) (b : Below w.heap.size w W) => scan_at (by omega) hsc W (HK.out.below b)
      have HRS := Lib.hid fun (W : World) => rscan_at (by omega) hsc W
      have hau : ∀ g, auditR s g = (p == s.length && m == g) := fun g => by unfold auditR; rw [hsc]
      have HB : Hid (∃ x y z : Bool, auditR s h = (x && y) ∧ auditR s m = x ∧ (((p : Int) == (s.length : Int)) = x) ∧ ((p == s.length) = x) ∧ (m == h) = y) := by
        refine ⟨p == s.length, m == h, true, hau h, ?_, ?_, rfl, rfl⟩
        · rw [hau m]; simp
        · rw [Bool.eq_iff_iff, beq_iff_eq, beq_iff_eq]; omega
      obtain ⟨x, y, _, ha, hb, hx, hx2, hy⟩ := HB.out
      have HAH := Lib.hid fun (W : World) (b : Below w.heap.size w W) => audit_at (s := s) (h := h) (by omega) ha W (HK.out.below b)
      have HAM := Lib.hid fun (W : World) (b : Below w.heap.size w W) => audit_at (s := s) (h := m) (by omega) hb W (HK.out.below b)
      have hmm : (m == m) = true := by simp
      clear ha hb HB hau hsc
      cases x <;> cases y
      all_goals
        go_enter Tryd.func3, Tryd.ntmps3
        go_wp2_with fail
        refine (HSN.out w (Below.refl _ _)).mono ?_; rintro e w1 ⟨lv, rfl, hl, b1⟩
        have B1 := Lib.hid b1
        have HL1 := Lib.hid hl
        clear b1 hl
        go_wp2_with fail
        refine (HRS.out w1).mono ?_; rintro e w2 ⟨lu, rfl, hu, b2⟩
        have B2 := Lib.hid (below_more B1.out b2 B1.out.size)
        have HL2 := Lib.hid (HL1.out.later b2)
        have HU2 := Lib.hid hu
        clear b2 hu
        go_wp2_with fail
        refine (same_same _ _ rl w2 HL2.out HU2.out).mono ?_; rintro e w3 ⟨rfl, b3⟩
        have B3 := Lib.hid (below_more B2.out b3 B2.out.size)
        clear b3
        go_wp2_with fail
        refine (HAH.out w3 B3.out).mono ?_; rintro e w4 ⟨rfl, b4⟩
        have B4 := Lib.hid (below_more B3.out b4 B3.out.size)
        clear b4
        go_wp2_with fail
        refine (HAM.out w4 B4.out).mono ?_; rintro e w5 ⟨rfl, b5⟩
        have B5 := Lib.hid (below_more B4.out b5 B4.out.size)
        clear b5
        go_wp2_with fail
        refine (HA.out w5 B5.out).mono ?_; rintro e w6 ⟨rfl, b6⟩
        go_wp2_with fail
        go_ret
        exact ⟨rfl, below_more B5.out b6 B5.out.size⟩
end Go.Proofs.YtdmoolfalcdbjaaDoor

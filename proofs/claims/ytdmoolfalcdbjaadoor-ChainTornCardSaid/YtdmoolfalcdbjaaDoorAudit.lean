/- The walk of chain.Audit. -/
import Derived.Test.YtdmoolfalcdbjaaDoorScanW
namespace Go.Proofs.YtdmoolfalcdbjaaDoor
set_option linter.unusedVariables false
set_option linter.unusedSimpArgs false
open Go.RowKit Sha Chain

/-- what Audit answers. -/
def auditR (s h : List UInt8) : Bool := (scanR s).2.2 == s.length && (scanR s).2.1 == h
theorem scanR_le (s : List UInt8) : (scanR s).2.2 ≤ s.length := at_le s _
theorem scanR_link (s : List UInt8) : (scanR s).2.1.length = 32 := link_length s _

set_option maxRecDepth 20000 in
set_option maxHeartbeats 400000 in
theorem audit_any (s h : List UInt8) (hs : s.length < 100000000) (w : World) (hk : KLaid w) :
    Calls Tryd.prog 12 #[.string ⟨s.toArray⟩, .string ⟨h.toArray⟩] w fun e w' => e = .returned (.bool (auditR s h)) ∧ Below w.heap.size w w' := by
  have HS := Lib.hid (scan_any s hs w hk)
  have HR : Hid (auditR s h = ((scanR s).2.2 == s.length && (scanR s).2.1 == h)) := rfl
  unfold Scanned at HS
  generalize auditR s h = res at *
  have hle := scanR_le s
  generalize (scanR s).1 = rl at *
  generalize (scanR s).2.1 = m at *
  generalize (scanR s).2.2 = p at *
  clear hk
  by_cases h1 : p = s.length
  · subst h1
    cases h2 : (m == h) with
    | true =>
      have HR2 : Hid (res = true) := by show _ = _; rw [HR.out, h2]; simp
      have h3 : m = h := by simpa using h2
      go_enter Tryd.func12, Tryd.ntmps12
      go_wp2_with fail
      refine HS.out.mono ?_; rintro e w1 ⟨lv, rfl, hl, b1⟩
      go_wp2_with fail
      go_ret
      exact ⟨by rw [HR2.out]; rfl, b1⟩
    | false =>
      have HR2 : Hid (res = false) := by show _ = _; rw [HR.out, h2]; simp
      go_enter Tryd.func12, Tryd.ntmps12
      go_wp2_with fail
      refine HS.out.mono ?_; rintro e w1 ⟨lv, rfl, hl, b1⟩
      go_wp2_with fail
      go_ret
      exact ⟨by rw [HR2.out]; rfl, b1⟩
  · have h2 : (p == s.length) = false := by rw [beq_eq_false_iff_ne]; exact h1
    have HR2 : Hid (res = false) := by show _ = _; rw [HR.out, h2]; rfl
    have h3 : ((p : Int) == s.length) = false := by rw [beq_eq_false_iff_ne]; omega
    go_enter Tryd.func12, Tryd.ntmps12
    go_wp2_with fail
    refine HS.out.mono ?_; rintro e w1 ⟨lv, rfl, hl, b1⟩
    go_wp2_with fail
    go_ret
    exact ⟨by rw [HR2.out]; rfl, b1⟩
end Go.Proofs.YtdmoolfalcdbjaaDoor

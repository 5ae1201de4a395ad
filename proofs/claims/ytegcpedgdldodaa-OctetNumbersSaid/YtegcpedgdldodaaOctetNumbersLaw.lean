/- The walk of the law OctetNumbers. -/
import Derived.Test.YtegcpedgdldodaaOctW4
import Derived.Test.YtegcpedgdldodaaOctR2
namespace Go.Proofs.Ytegcpedgdldodaa
set_option linter.unusedVariables false
set_option linter.unusedSimpArgs false
open Go.RowKit Oct

set_option maxRecDepth 20000 in
set_option maxHeartbeats 1000000 in
theorem law_OctetNumbers (a : Int) (ha : (Lit.int .u64 a).wf = true) (s : List UInt8) (hs : s.length ≤ maxLen) (w : World) :
    Calls Try.prog 3 #[.int .u64 a, .string ⟨s.toArray⟩] w fun e w' => e = .returned (.bool true) ∧ Below w.heap.size w w' := by
  obtain ⟨x, rfl, hx⟩ := nat_of_u64 ha
  clear ha
  unfold maxLen at hs
  by_cases h1 : 4096 < s.length
  · clear hx
    go_enter Try.func3, Try.ntmps3
    go_wp2_with fail
    refine (alive_any _).mono ?_; rintro e w' ⟨rfl, hb⟩
    go_wp2
    go_ret
    exact ⟨rfl, hb⟩
  · have NX := Lib.hid fun w => num_any x w hx
    have RX := Lib.hid fun w => rnum_any x w hx
    rcases hr : readNum s with ⟨v, n, e⟩
    have RN := Lib.hid fun w => readnum_at w (by omega) hr
    have RR := Lib.hid fun w => rreadnum_at w (by omega) hr
    clear hx hr
    go_enter Try.func3, Try.ntmps3
    go_wp2_with fail
    refine (RN.out _).mono ?_; rintro e w1 ⟨rfl, rfl⟩
    go_wp2_with fail
    refine (RR.out _).mono ?_; rintro e w1 ⟨rfl, b1⟩
    go_wp2_with fail
    refine (NX.out _).mono ?_; rintro e w2 ⟨rfl, b2⟩
    go_wp2_with fail
    refine (RX.out _).mono ?_; rintro e w3 ⟨rfl, b3⟩
    go_wp2_with fail
    refine (alive_any _).mono ?_; rintro e w4 ⟨rfl, b4⟩
    go_wp2
    go_ret
    exact ⟨rfl, b1.trans ((b2.mono b1.size).trans ((b3.mono (Nat.le_trans b1.size b2.size)).trans (b4.mono (Nat.le_trans b1.size (Nat.le_trans b2.size b3.size)))))⟩
end Go.Proofs.Ytegcpedgdldodaa

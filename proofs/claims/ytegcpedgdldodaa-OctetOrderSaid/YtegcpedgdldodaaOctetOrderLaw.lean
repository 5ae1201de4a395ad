/- The walk of the law OctetOrder. -/
import Derived.Test.YtegcpedgdldodaaOctW4
import Derived.Test.YtegcpedgdldodaaOctOrd
namespace Go.Proofs.Ytegcpedgdldodaa
set_option linter.unusedVariables false
set_option linter.unusedSimpArgs false
open Go.RowKit Oct
attribute [local go_sem] ByteArray.mk_append_mk

set_option maxRecDepth 20000 in
set_option maxHeartbeats 1000000 in
theorem law_OctetOrder (a : Int) (ha : (Lit.int .u64 a).wf = true) (b : Int) (hb : (Lit.int .u64 b).wf = true) (s : List UInt8) (hs : s.length ≤ maxLen) (t : List UInt8) (ht : t.length ≤ maxLen) (w : World) :
    Calls Try.prog 4 #[.int .u64 a, .int .u64 b, .string ⟨s.toArray⟩, .string ⟨t.toArray⟩] w fun e w' => e = .returned (.bool true) ∧ Below w.heap.size w w' := by
  obtain ⟨x, rfl, hx⟩ := nat_of_u64 ha
  obtain ⟨y, rfl, hy⟩ := nat_of_u64 hb
  clear ha hb
  unfold maxLen at hs ht
  by_cases h1 : 4096 < s.length
  · clear hx hy
    go_enter Try.func4, Try.ntmps4
    go_wp2_with fail
    refine (alive_any _).mono ?_; rintro e w' ⟨rfl, hb⟩
    go_wp2
    go_ret
    exact ⟨rfl, hb⟩
  · by_cases h2 : 4096 < t.length
    · clear hx hy
      go_enter Try.func4, Try.ntmps4
      go_wp2_with fail
      refine (alive_any _).mono ?_; rintro e w' ⟨rfl, hb⟩
      go_wp2
      go_ret
      exact ⟨rfl, hb⟩
    · have NX := Lib.hid fun w => num_any x w hx
      have NY := Lib.hid fun w => num_any y w hy
      have lx := num_length_le x
      have ly := num_length_le y
      by_cases he : x = y
      · subst he
        have L1 := bytesLess_irrefl (num x)
        clear hx hy
        go_enter Try.func4, Try.ntmps4
        go_wp2_with fail
        refine (NX.out _).mono ?_; rintro e w1 ⟨rfl, b1⟩
        go_wp2_with fail
        refine (NY.out _).mono ?_; rintro e w2 ⟨rfl, b2⟩
        go_wp2_with fail
        refine (alive_any _).mono ?_; rintro e w3 ⟨rfl, b3⟩
        go_wp2
        go_ret
        exact ⟨rfl, b1.trans ((b2.mono b1.size).trans (b3.mono (Nat.le_trans b1.size b2.size)))⟩
      · have L1 := num_less' hx hy
        have L2 := num_less hx hy he s t
        have L3 : (num x == num y) = false := by rw [beq_eq_false_iff_ne]; exact fun h => he ((num_inj hx hy).1 h)
        have L4 : ((x : Int) == (y : Int)) = false := by rw [beq_eq_false_iff_ne]; omega
        clear hx hy
        go_enter Try.func4, Try.ntmps4
        go_wp2_with fail
        refine (NX.out _).mono ?_; rintro e w1 ⟨rfl, b1⟩
        go_wp2_with fail
        refine (NY.out _).mono ?_; rintro e w2 ⟨rfl, b2⟩
        go_wp2_with fail
        refine (alive_any _).mono ?_; rintro e w3 ⟨rfl, b3⟩
        go_wp2
        go_ret
        exact ⟨rfl, b1.trans ((b2.mono b1.size).trans (b3.mono (Nat.le_trans b1.size b2.size)))⟩
end Go.Proofs.Ytegcpedgdldodaa

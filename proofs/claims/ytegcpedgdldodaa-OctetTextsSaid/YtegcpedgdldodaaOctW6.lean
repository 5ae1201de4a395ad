/- The walk of the reference's Same (two rows of texts). -/
import Derived.Test.YtegcpedgdldodaaStrs
import Derived.Deep.QuietTactic
import Derived.BigQuiet
import Derived.WalkSmall
namespace Go.Proofs.Ytegcpedgdldodaa
set_option linter.unusedVariables false
set_option linter.unusedSimpArgs false
open Go.RowKit

/-- are two rows the same? -/
def sameB (a b : List (List UInt8)) : Bool := decide (a = b)

set_option maxRecDepth 20000 in
set_option maxHeartbeats 400000 in
theorem same_ne (A B : Option Addr) (n m c d : Nat) (hn : n ≤ maxLen) (hm : m ≤ maxLen) (h : n ≠ m) (w : World) :
    Calls Try.prog 18 #[.slice A n c, .slice B m d] w fun e w' => e = .returned (.bool false) ∧ Below w.heap.size w w' := by
  unfold maxLen at hn hm
  have h1 : ((n : Int) == m) = false := by rw [beq_eq_false_iff_ne]; omega
  have h2 : ((n : Int) != m) = true := by rw [bne_iff_ne]; omega
  go_enter Try.func18, Try.ntmps18
  go_wp2
  go_ret
  exact ⟨rfl, Below.refl _ _⟩

set_option maxRecDepth 20000 in
set_option maxHeartbeats 400000 in
theorem same_none (A B : Option Addr) (c d : Nat) (w : World) :
    Calls Try.prog 18 #[.slice A 0 c, .slice B 0 d] w fun e w' => e = .returned (.bool true) ∧ Below w.heap.size w w' := by
  go_enter Try.func18, Try.ntmps18
  go_wp2
  go_loop [5] (fun i => i = .int .i64 0) (fun _ => 0)
  case atStart => exact rfl
  case round =>
    obtain rfl := hrel
    go_wp2
    go_ret
    exact ⟨rfl, Below.refl _ _⟩

set_option maxRecDepth 20000 in
set_option maxHeartbeats 1000000 in
theorem same_some (a b : List (List UInt8)) (b1 o1 c1 b2 o2 c2 : Nat) (w : World) (hl : a.length = b.length) (h0 : 0 < a.length) (hm : a.length ≤ maxLen) (k1 : b1 < w.heap.size) (k2 : b2 < w.heap.size)
    (hc1 : ∀ i (h : i < a.length), w.cell? ⟨b1, o1 + i, none⟩ = some (.string ⟨(a[i]).toArray⟩))
    (hc2 : ∀ i (h : i < b.length), w.cell? ⟨b2, o2 + i, none⟩ = some (.string ⟨(b[i]).toArray⟩)) :
    Calls Try.prog 18 #[.slice (some ⟨b1, o1, none⟩) a.length c1, .slice (some ⟨b2, o2, none⟩) b.length c2] w fun e w' => e = .returned (.bool (sameB a b)) ∧ Below w.heap.size w w' := by
  unfold maxLen at hm
  have HL := Lib.hid hl
  have H1 := Lib.hid hc1
  have H2 := Lib.hid hc2
  obtain ⟨n, hn⟩ : ∃ n, b.length = n := ⟨_, rfl⟩
  have hna : a.length = n := by omega
  have HNA := Lib.hid hna
  have HNB := Lib.hid hn
  rw [hn, hna]
  rw [hna] at h0 hm
  clear hc1 hc2 hl hn hna
  go_enter Try.func18, Try.ntmps18
  go_wp2
  go_loopw [5] (fun i wr => ∃ k : Nat, k ≤ n ∧ Hid (a.take k = b.take k) ∧ i = .int .i64 k ∧ Below w.heap.size w wr) (fun i _ => n - (intOf i).toNat)
  case atStart => exact ⟨0, by omega, rfl, rfl, Below.refl _ _⟩
  case round =>
    obtain ⟨k, hk, HE, rfl, hB⟩ := hrel
    have HB := Lib.hid hB
    by_cases hlt : k < n
    · have ka : k < a.length := by have := HNA.out; omega
      have kb : k < b.length := by have := HNB.out; omega
      have f1 : wr.cell? ⟨b1, o1 + k, none⟩ = some (.string ⟨(a[k]).toArray⟩) := by rw [hB.cell (p := ⟨b1, o1 + k, none⟩) k1]; exact H1.out k ka
      have f2 : wr.cell? ⟨b2, o2 + k, none⟩ = some (.string ⟨(b[k]).toArray⟩) := by rw [hB.cell (p := ⟨b2, o2 + k, none⟩) k2]; exact H2.out k kb
      have HS : Hid (a[k] = b[k] → a.take (k + 1) = b.take (k + 1)) := by
        intro e
        rw [List.take_succ_eq_append_getElem ka, List.take_succ_eq_append_getElem kb, HE.out, e]
      have HD : Hid (a[k] ≠ b[k] → sameB a b = false) := by
        intro e
        unfold sameB
        rw [decide_eq_false_iff_not]
        intro e2; subst e2; exact e rfl
      have i1 : (k : Int) < n := by omega
      clear hB
      by_cases he : a[k]'ka = b[k]'kb
      · have HX := Lib.hid (HS.out he)
        have he1 := he
        generalize a[k]'ka = x at *
        generalize b[k]'kb = y at *
        clear ka kb
        clear HS HD
        subst he
        have q1 : (x == x) = true := by simp
        clear he1
        go_wp2
        go_quiet (fail)
        go_wp2
        go_roundw
        case rel => exact ⟨k + 1, by omega, HX, by go_num, below_drewN HB.out _⟩
        case measure => simp [intOf]; omega
      · have HX := Lib.hid (HD.out he)
        generalize a[k]'ka = x at *
        generalize b[k]'kb = y at *
        clear ka kb
        clear HS HD
        have q1 : (x == y) = false := by rw [beq_eq_false_iff_ne]; exact he
        have q2 : (x != y) = true := by rw [bne_iff_ne]; exact he
        clear he
        go_wp2
        go_quiet (fail)
        go_wp2
        go_ret
        exact ⟨by rw [HX.out]; rfl, below_drewN HB.out _⟩
    · have HX : Hid (sameB a b = true) := by
        unfold sameB
        show decide _ = true
        rw [decide_eq_true_iff]
        have h1 := HE.out
        rwa [List.take_of_length_le (by have := HNA.out; omega), List.take_of_length_le (by have := HNB.out; omega)] at h1
      clear hB
      go_wp2
      go_ret
      exact ⟨by rw [HX.out]; rfl, HB.out⟩

/-- the reference's Same tells whether two rows are the same. -/
theorem same_any (v u : Value) (a b : List (List UInt8)) (w : World) (hv : IsStrs w v a) (hu : IsStrs w u b) :
    Calls Try.prog 18 #[v, u] w fun e w' => e = .returned (.bool (sameB a b)) ∧ Below w.heap.size w w' := by
  have la := hv.length_le
  have lb := hu.length_le
  by_cases hl : a.length = b.length
  · rcases hv with ⟨rfl, A, c, rfl, _⟩ | ⟨b1, o1, c1, rfl, h0, h1, h2, h3, h4⟩
    · rcases hu with ⟨rfl, B, d, rfl, _⟩ | ⟨b2, o2, c2, rfl, g0, g1, g2, g3, g4⟩
      · exact same_none A B c d w
      · rw [List.length_nil] at hl; omega
    · rcases hu with ⟨rfl, B, d, rfl, _⟩ | ⟨b2, o2, c2, rfl, g0, g1, g2, g3, g4⟩
      · rw [List.length_nil] at hl; omega
      · exact same_some a b b1 o1 c1 b2 o2 c2 w hl h0 la h3 g3 h4 g4
  · have hf : sameB a b = false := by unfold sameB; rw [decide_eq_false_iff_not]; intro e; subst e; exact hl rfl
    rw [hf]
    rcases hv with ⟨rfl, A, c, rfl, _⟩ | ⟨b1, o1, c1, rfl, h0, h1, h2, h3, h4⟩
    · rcases hu with ⟨rfl, B, d, rfl, _⟩ | ⟨b2, o2, c2, rfl, g0, g1, g2, g3, g4⟩
      · exact absurd rfl hl
      · exact same_ne _ _ _ _ _ _ (by simp) lb (by simpa using hl) w
    · rcases hu with ⟨rfl, B, d, rfl, _⟩ | ⟨b2, o2, c2, rfl, g0, g1, g2, g3, g4⟩
      · exact same_ne _ _ _ _ _ _ la (by simp) (by simpa using hl) w
      · exact same_ne _ _ _ _ _ _ la lb hl w
end Go.Proofs.Ytegcpedgdldodaa

/- The walk of the reference's ReadText. -/
import Derived.Test.YtegcpedgdldodaaOctR2
import Derived.Test.YtegcpedgdldodaaOctW3
namespace Go.Proofs.Ytegcpedgdldodaa
set_option linter.unusedVariables false
set_option linter.unusedSimpArgs false
open Go.RowKit Oct
attribute [local go_sem] o_get_mk ByteArray.extract_mk

set_option maxRecDepth 20000 in
set_option maxHeartbeats 400000 in
theorem rreadtext_fail (l : List UInt8) (most : Int) (v n x : Nat) (w : World) (hm : l.length < 1000000000) (h : readNum l = (v, n, x)) (hx : x ≠ 0) :
    Calls Try.prog 20 #[.string ⟨l.toArray⟩, .int .i64 most] w fun e w' => e = .returned (tups (readText l most)) ∧ Below w.heap.size w w' := by
  have H := Lib.hid h
  have HT := Lib.hid (show readText l most = ([], 0, x) by simp [readText, h, hx])
  have hx1 : ((x : Int) == 0) = false := by simp; omega
  have hx2 : ((x : Int) != 0) = true := by simp; omega
  clear h hx
  go_enter Try.func20, Try.ntmps20
  go_wp2_with (go_at_call 10; refine (rreadnum_at _ hm H.out).mono ?_; rintro e w' ⟨rfl, b⟩)
  go_ret3
  exact ⟨by rw [HT.out]; rfl, b⟩

set_option maxRecDepth 20000 in
set_option maxHeartbeats 400000 in
theorem rreadtext_long (l : List UInt8) (most : Int) (v n : Nat) (w : World) (hm : l.length < 1000000000) (hlo : -9223372036854775808 ≤ most) (hmo : most ≤ 9223372036854775807) (h : readNum l = (v, n, 0)) (hx : max most 0 < v) :
    Calls Try.prog 20 #[.string ⟨l.toArray⟩, .int .i64 most] w fun e w' => e = .returned (tups (readText l most)) ∧ Below w.heap.size w w' := by
  have H := Lib.hid h
  have HT := Lib.hid (show readText l most = ([], 0, 5) by simp [readText, h, hx])
  clear h
  by_cases hneg : most < 0
  · have hv : (0 : Int) < v := by omega
    have hv' : 0 < v := by omega
    go_enter Try.func20, Try.ntmps20
    go_wp2_with (go_at_call 10; refine (rreadnum_at _ hm H.out).mono ?_; rintro e w' ⟨rfl, b⟩)
    go_ret3
    exact ⟨by rw [HT.out]; rfl, b⟩
  · have hge : (0 : Int) ≤ most := by omega
    have hd1 : decide (most < 0) = false := by rw [decide_eq_false_iff_not]; omega
    have hw : IntKind.u64.wrap most = most := PlainAid.u64_nonneg (by omega) (by omega)
    have hv : most < (v : Int) := by omega
    clear hneg
    go_enter Try.func20, Try.ntmps20
    go_wp2_with (go_at_call 10; refine (rreadnum_at _ hm H.out).mono ?_; rintro e w' ⟨rfl, b⟩)
    go_ret3
    exact ⟨by rw [HT.out]; rfl, b⟩

set_option maxRecDepth 20000 in
set_option maxHeartbeats 400000 in
theorem rreadtext_end (l : List UInt8) (most : Int) (v n : Nat) (w : World) (hm : l.length < 1000000000) (hlo : -9223372036854775808 ≤ most) (hmo : most ≤ 9223372036854775807) (h : readNum l = (v, n, 0)) (hx : (v : Int) ≤ max most 0) (hn : n ≤ l.length) (he : l.length - n < v) :
    Calls Try.prog 20 #[.string ⟨l.toArray⟩, .int .i64 most] w fun e w' => e = .returned (tups (readText l most)) ∧ Below w.heap.size w w' := by
  have H := Lib.hid h
  have HT := Lib.hid (show readText l most = ([], 0, 6) by
    unfold readText
    rw [h, if_neg (by simp), if_neg (by simpa using hx), if_pos he])
  have hge : (0 : Int) ≤ most := by omega
  have hd1 : decide (most < 0) = false := by rw [decide_eq_false_iff_not]; omega
  have hw : IntKind.u64.wrap most = most := PlainAid.u64_nonneg (by omega) (by omega)
  have hv : decide (most < (v : Int)) = false := by rw [decide_eq_false_iff_not]; omega
  have hv' : ¬ most < (v : Int) := by omega
  have he' : (l.length : Int) - n < v := by omega
  clear h he hx
  go_enter Try.func20, Try.ntmps20
  go_wp2_with (go_at_call 10; refine (rreadnum_at _ hm H.out).mono ?_; rintro e w' ⟨rfl, b⟩)
  go_ret3
  exact ⟨by rw [HT.out]; rfl, b⟩

set_option maxRecDepth 20000 in
set_option maxHeartbeats 400000 in
theorem rreadtext_ok (l : List UInt8) (most : Int) (v n : Nat) (w : World) (hm : l.length < 1000000000) (hlo : -9223372036854775808 ≤ most) (hmo : most ≤ 9223372036854775807) (h : readNum l = (v, n, 0)) (hx : (v : Int) ≤ max most 0) (hn : n ≤ l.length) (he : v ≤ l.length - n) :
    Calls Try.prog 20 #[.string ⟨l.toArray⟩, .int .i64 most] w fun e w' => e = .returned (tups (readText l most)) ∧ Below w.heap.size w w' := by
  have H := Lib.hid h
  have HT := Lib.hid (show readText l most = ((l.drop n).take v, n + v, 0) by
    unfold readText
    rw [h, if_neg (by simp), if_neg (by simpa using hx), if_neg (by simp only; omega)])
  have HV := Lib.hid (show n + v - n = v by omega)
  have he' : ¬ (l.length : Int) - n < v := by omega
  have hvn : v + n ≤ l.length := by omega
  clear h he
  by_cases hneg : most < 0
  · have hv : v = 0 := by omega
    subst hv
    clear hx
    go_enter Try.func20, Try.ntmps20
    go_wp2_with (go_at_call 10; refine (rreadnum_at _ hm H.out).mono ?_; rintro e w' ⟨rfl, b⟩)
    go_ret3
    exact ⟨by rw [HT.out]; rfl, b⟩
  · have hge : (0 : Int) ≤ most := by omega
    have hd1 : decide (most < 0) = false := by rw [decide_eq_false_iff_not]; omega
    have hw : IntKind.u64.wrap most = most := PlainAid.u64_nonneg (by omega) (by omega)
    have hv : decide (most < (v : Int)) = false := by rw [decide_eq_false_iff_not]; omega
    have hv' : ¬ most < (v : Int) := by omega
    clear hneg hx
    go_enter Try.func20, Try.ntmps20
    go_wp2_with (go_at_call 10; refine (rreadnum_at _ hm H.out).mono ?_; rintro e w' ⟨rfl, b⟩)
    go_ret3
    exact ⟨by rw [HT.out, HV.out]; rfl, b⟩

/-- the reference's ReadText answers what octet's answers. -/
theorem rreadtext_any (l : List UInt8) (most : Int) (w : World) (hm : l.length < 1000000000) (hlo : -9223372036854775808 ≤ most) (hmo : most ≤ 9223372036854775807) :
    Calls Try.prog 20 #[.string ⟨l.toArray⟩, .int .i64 most] w fun e w' => e = .returned (tups (readText l most)) ∧ Below w.heap.size w w' := by
  rcases h : readNum l with ⟨v, n, x⟩
  by_cases hx : x = 0
  · subst hx
    obtain ⟨_, hn, _, _⟩ := readNum_bounds h
    by_cases h1 : max most 0 < (v : Int)
    · exact rreadtext_long l most v n w hm hlo hmo h h1
    · by_cases h2 : l.length - n < v
      · exact rreadtext_end l most v n w hm hlo hmo h (by omega) hn h2
      · exact rreadtext_ok l most v n w hm hlo hmo h (by omega) hn (by omega)
  · exact rreadtext_fail l most v n x w hm h hx
theorem rreadtext_at {l t : List UInt8} {most : Int} {n x : Nat} (w : World) (hm : l.length < 1000000000) (hlo : -9223372036854775808 ≤ most) (hmo : most ≤ 9223372036854775807) (h : readText l most = (t, n, x)) :
    Calls Try.prog 20 #[.string ⟨l.toArray⟩, .int .i64 most] w fun e w' => e = .returned (.tuple #[.string ⟨t.toArray⟩, .int .i64 n, .int .i64 x]) ∧ Below w.heap.size w w' := by
  have := rreadtext_any l most w hm hlo hmo
  rw [h] at this
  exact this
end Go.Proofs.Ytegcpedgdldodaa

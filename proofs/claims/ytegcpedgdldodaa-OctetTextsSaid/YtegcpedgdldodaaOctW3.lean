/- The walk of octet.ReadText. -/
import Derived.Test.YtegcpedgdldodaaOctW2
import Derived.Lib.MinMax
import Derived.OpenShut
namespace Go.Proofs.Ytegcpedgdldodaa
set_option linter.unusedVariables false
set_option linter.unusedSimpArgs false
open Go.RowKit Oct
attribute [local go_sem] o_get_mk ByteArray.extract_mk

theorem readnum_at {l : List UInt8} {v n x : Nat} (w : World) (hm : l.length < 1000000000) (h : readNum l = (v, n, x)) :
    Calls Try.prog 9 #[.string ⟨l.toArray⟩] w fun e w' => e = .returned (.tuple #[.int .u64 v, .int .i64 n, .int .i64 x]) ∧ w = w' := by
  have := readnum_any l w hm
  rw [h] at this
  exact this

theorem nat_of_u64 {a : Int} (h : (Lit.int .u64 a).wf = true) : ∃ v : Nat, a = v ∧ v < 256 ^ 8 := by
  obtain ⟨h1, h2⟩ := bounds_u64 h
  refine ⟨a.toNat, by omega, ?_⟩
  rw [p8]; omega

/-- the three results of ReadText. -/
def tups (p : List UInt8 × Nat × Nat) : Value := .tuple #[.string ⟨p.1.toArray⟩, .int .i64 p.2.1, .int .i64 p.2.2]

set_option maxRecDepth 20000 in
set_option maxHeartbeats 400000 in
theorem readtext_fail (l : List UInt8) (most : Int) (v n x : Nat) (w : World) (hm : l.length < 1000000000) (h : readNum l = (v, n, x)) (hx : x ≠ 0) :
    Calls Try.prog 13 #[.string ⟨l.toArray⟩, .int .i64 most] w fun e w' => e = .returned (tups (readText l most)) ∧ w = w' := by
  have H := Lib.hid h
  have HT := Lib.hid (show readText l most = ([], 0, x) by simp [readText, h, hx])
  have hx1 : ((x : Int) == 0) = false := by simp; omega
  have hx2 : ((x : Int) != 0) = true := by simp; omega
  clear h hx
  go_enter Try.func13, Try.ntmps13
  go_wp2_with (go_at_call 9; refine (readnum_at _ hm H.out).mono ?_; rintro e w' ⟨rfl, rfl⟩)
  go_ret3
  exact ⟨by rw [HT.out]; rfl, rfl⟩

set_option maxRecDepth 20000 in
set_option maxHeartbeats 400000 in
theorem readtext_long (l : List UInt8) (most : Int) (v n : Nat) (w : World) (hm : l.length < 1000000000) (hmo : most ≤ 9223372036854775807) (h : readNum l = (v, n, 0)) (hx : max most 0 < v) :
    Calls Try.prog 13 #[.string ⟨l.toArray⟩, .int .i64 most] w fun e w' => e = .returned (tups (readText l most)) ∧ w = w' := by
  have H := Lib.hid h
  have HT := Lib.hid (show readText l most = ([], 0, 5) by simp [readText, h, hx])
  clear h
  go_enter Try.func13, Try.ntmps13
  go_wp2_with (go_at_call 9; refine (readnum_at _ hm H.out).mono ?_; rintro e w' ⟨rfl, rfl⟩)
  go_ret3
  exact ⟨by rw [HT.out]; rfl, rfl⟩

set_option maxRecDepth 20000 in
set_option maxHeartbeats 400000 in
theorem readtext_end (l : List UInt8) (most : Int) (v n : Nat) (w : World) (hm : l.length < 1000000000) (hmo : most ≤ 9223372036854775807) (h : readNum l = (v, n, 0)) (hx : (v : Int) ≤ max most 0) (hn : n ≤ l.length) (he : l.length - n < v) :
    Calls Try.prog 13 #[.string ⟨l.toArray⟩, .int .i64 most] w fun e w' => e = .returned (tups (readText l most)) ∧ w = w' := by
  have H := Lib.hid h
  have HT := Lib.hid (show readText l most = ([], 0, 6) by
    unfold readText
    rw [h, if_neg (by simp), if_neg (by simpa using hx), if_pos he])
  have hx' : ¬ max most 0 < (v : Int) := by omega
  have he' : (l.length : Int) - n < v := by omega
  clear h he hx
  go_enter Try.func13, Try.ntmps13
  go_wp2_with (go_at_call 9; refine (readnum_at _ hm H.out).mono ?_; rintro e w' ⟨rfl, rfl⟩)
  go_ret3
  exact ⟨by rw [HT.out]; rfl, rfl⟩

set_option maxRecDepth 20000 in
set_option maxHeartbeats 400000 in
theorem readtext_ok (l : List UInt8) (most : Int) (v n : Nat) (w : World) (hm : l.length < 1000000000) (hmo : most ≤ 9223372036854775807) (h : readNum l = (v, n, 0)) (hx : (v : Int) ≤ max most 0) (hn : n ≤ l.length) (he : v ≤ l.length - n) :
    Calls Try.prog 13 #[.string ⟨l.toArray⟩, .int .i64 most] w fun e w' => e = .returned (tups (readText l most)) ∧ w = w' := by
  have H := Lib.hid h
  have HT := Lib.hid (show readText l most = ((l.drop n).take v, n + v, 0) by
    unfold readText
    rw [h, if_neg (by simp), if_neg (by simpa using hx), if_neg (by simp only; omega)])
  have HV := Lib.hid (show n + v - n = v by omega)
  have hx' : ¬ max most 0 < (v : Int) := by omega
  have he' : ¬ (l.length : Int) - n < v := by omega
  have hvn : v + n ≤ l.length := by omega
  clear h he hx
  go_enter Try.func13, Try.ntmps13
  go_wp2_with (go_at_call 9; refine (readnum_at _ hm H.out).mono ?_; rintro e w' ⟨rfl, rfl⟩)
  go_ret3
  exact ⟨by rw [HT.out, HV.out]; rfl, rfl⟩

/-- octet.ReadText answers what the bytes begin with, and leaves the world alone. -/
theorem readtext_any (l : List UInt8) (most : Int) (w : World) (hm : l.length < 1000000000) (hmo : most ≤ 9223372036854775807) :
    Calls Try.prog 13 #[.string ⟨l.toArray⟩, .int .i64 most] w fun e w' => e = .returned (tups (readText l most)) ∧ w = w' := by
  rcases h : readNum l with ⟨v, n, x⟩
  by_cases hx : x = 0
  · subst hx
    obtain ⟨_, hn, _, _⟩ := readNum_bounds h
    by_cases h1 : max most 0 < (v : Int)
    · exact readtext_long l most v n w hm hmo h h1
    · by_cases h2 : l.length - n < v
      · exact readtext_end l most v n w hm hmo h (by omega) hn h2
      · exact readtext_ok l most v n w hm hmo h (by omega) hn (by omega)
  · exact readtext_fail l most v n x w hm h hx

set_option maxRecDepth 20000 in
set_option maxHeartbeats 400000 in
/-- octet.Text answers the text's bytes. -/
theorem text_any (l : List UInt8) (w : World) (hm : l.length < 1000000000) :
    Calls Try.prog 14 #[.string ⟨l.toArray⟩] w fun e w' => e = .returned (.string ⟨(text l).toArray⟩) ∧ Below w.heap.size w w' := by
  have hn := num_length_le l.length
  have HT := Lib.hid (show text l = num l.length ++ l from rfl)
  have HN := Lib.hid (num_any (w := w) l.length (by rw [p8]; omega))
  go_enter Try.func14, Try.ntmps14
  go_wp2_with (go_at_call 11; refine HN.out.mono ?_; rintro e w' ⟨rfl, hb⟩)
  go_ret
  exact ⟨by rw [HT.out, ← ByteArray.mk_append_mk]; rfl, hb⟩
end Go.Proofs.Ytegcpedgdldodaa

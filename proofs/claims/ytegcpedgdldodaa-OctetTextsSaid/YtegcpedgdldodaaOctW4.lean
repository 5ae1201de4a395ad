/- The walk of the statements' own alive: the chapter's examples. -/
import Derived.Test.YtegcpedgdldodaaOctW3
namespace Go.Proofs.Ytegcpedgdldodaa
set_option linter.unusedVariables false
set_option linter.unusedSimpArgs false
open Go.RowKit Oct

theorem num_at {v : Nat} {l : List UInt8} (w : World) (hv : v < 256 ^ 8) (h : num v = l) :
    Calls Try.prog 11 #[.int .u64 v] w fun e w' => e = .returned (.string ⟨l.toArray⟩) ∧ Below w.heap.size w w' := by
  rw [← h]; exact num_any v w hv
theorem readtext_at {l t : List UInt8} {most : Int} {n x : Nat} (w : World) (hm : l.length < 1000000000) (hmo : most ≤ 9223372036854775807) (h : readText l most = (t, n, x)) :
    Calls Try.prog 13 #[.string ⟨l.toArray⟩, .int .i64 most] w fun e w' => e = .returned (.tuple #[.string ⟨t.toArray⟩, .int .i64 n, .int .i64 x]) ∧ w = w' := by
  have := readtext_any l most w hm hmo
  rw [h] at this
  exact this

theorem a_num0 (w : World) : Calls Try.prog 11 #[.int .u64 0] w fun e w' => e = .returned (.string ⟨#[0]⟩) ∧ Below w.heap.size w w' := num_at (v := 0) (l := [0]) w (by decide) (by decide)
theorem a_num247 (w : World) : Calls Try.prog 11 #[.int .u64 247] w fun e w' => e = .returned (.string ⟨#[247]⟩) ∧ Below w.heap.size w w' := num_at (v := 247) (l := [247]) w (by decide) (by decide)
theorem a_num248 (w : World) : Calls Try.prog 11 #[.int .u64 248] w fun e w' => e = .returned (.string ⟨#[248, 248]⟩) ∧ Below w.heap.size w w' := num_at (v := 248) (l := [248, 248]) w (by decide) (by decide)
theorem a_num256 (w : World) : Calls Try.prog 11 #[.int .u64 256] w fun e w' => e = .returned (.string ⟨#[249, 1, 0]⟩) ∧ Below w.heap.size w w' := num_at (v := 256) (l := [249, 1, 0]) w (by decide) (by decide)
theorem a_rn1 (w : World) : Calls Try.prog 9 #[.string ⟨#[249, 1]⟩] w fun e w' => e = .returned (.tuple #[.int .u64 0, .int .i64 0, .int .i64 6]) ∧ w = w' := readnum_at (l := [249, 1]) (v := 0) (n := 0) (x := 6) w (by decide) (by decide)
theorem a_rn2 (w : World) : Calls Try.prog 9 #[.string ⟨#[249, 0, 9]⟩] w fun e w' => e = .returned (.tuple #[.int .u64 0, .int .i64 0, .int .i64 7]) ∧ w = w' := readnum_at (l := [249, 0, 9]) (v := 0) (n := 0) (x := 7) w (by decide) (by decide)
theorem a_rn3 (w : World) : Calls Try.prog 9 #[.string ⟨#[248, 7]⟩] w fun e w' => e = .returned (.tuple #[.int .u64 0, .int .i64 0, .int .i64 7]) ∧ w = w' := readnum_at (l := [248, 7]) (v := 0) (n := 0) (x := 7) w (by decide) (by decide)
theorem a_rn4 (w : World) : Calls Try.prog 9 #[.string ⟨#[9, 8]⟩] w fun e w' => e = .returned (.tuple #[.int .u64 9, .int .i64 1, .int .i64 0]) ∧ w = w' := readnum_at (l := [9, 8]) (v := 9) (n := 1) (x := 0) w (by decide) (by decide)
theorem a_rt1 (w : World) : Calls Try.prog 13 #[.string ⟨#[2, 97, 98, 99]⟩, .int .i64 2] w fun e w' => e = .returned (.tuple #[.string ⟨#[97, 98]⟩, .int .i64 3, .int .i64 0]) ∧ w = w' := readtext_at (l := [2, 97, 98, 99]) (t := [97, 98]) (n := 3) (x := 0) w (by decide) (by decide) (by decide)
theorem a_rt2 (w : World) : Calls Try.prog 13 #[.string ⟨#[2, 97, 98, 99]⟩, .int .i64 1] w fun e w' => e = .returned (.tuple #[.string ⟨#[]⟩, .int .i64 0, .int .i64 5]) ∧ w = w' := readtext_at (l := [2, 97, 98, 99]) (t := []) (n := 0) (x := 5) w (by decide) (by decide) (by decide)
theorem a_rt3 (w : World) : Calls Try.prog 13 #[.string ⟨#[2, 97]⟩, .int .i64 2] w fun e w' => e = .returned (.tuple #[.string ⟨#[]⟩, .int .i64 0, .int .i64 6]) ∧ w = w' := readtext_at (l := [2, 97]) (t := []) (n := 0) (x := 6) w (by decide) (by decide) (by decide)

set_option maxRecDepth 20000 in
set_option maxHeartbeats 1000000 in
/-- the chapter's examples hold. -/
theorem alive_any (w : World) :
    Calls Try.prog 8 #[] w fun e w' => e = .returned (.bool true) ∧ Below w.heap.size w w' := by
  go_enter Try.func8, Try.ntmps8
  go_wp2_with fail
  refine (a_num0 _).mono ?_; rintro e w1 ⟨rfl, b1⟩
  go_wp2_with fail
  refine (a_num247 _).mono ?_; rintro e w2 ⟨rfl, b2⟩
  go_wp2_with fail
  refine (a_num248 _).mono ?_; rintro e w3 ⟨rfl, b3⟩
  go_wp2_with fail
  refine (a_num256 _).mono ?_; rintro e w4 ⟨rfl, b4⟩
  go_wp2_with fail
  refine (a_rn1 _).mono ?_; rintro e w' ⟨rfl, rfl⟩
  go_wp2_with fail
  refine (a_rn2 _).mono ?_; rintro e w' ⟨rfl, rfl⟩
  go_wp2_with fail
  refine (a_rn3 _).mono ?_; rintro e w' ⟨rfl, rfl⟩
  go_wp2_with fail
  refine (a_rn4 _).mono ?_; rintro e w' ⟨rfl, rfl⟩
  go_wp2_with fail
  refine (a_rt1 _).mono ?_; rintro e w' ⟨rfl, rfl⟩
  go_wp2_with fail
  refine (a_rt2 _).mono ?_; rintro e w' ⟨rfl, rfl⟩
  go_wp2_with fail
  refine (a_rt3 _).mono ?_; rintro e w' ⟨rfl, rfl⟩
  go_wp2_with fail
  go_ret
  refine ⟨rfl, b1.trans ((b2.mono b1.size).trans ((b3.mono ?_).trans (b4.mono ?_)))⟩
  · exact Nat.le_trans b1.size b2.size
  · exact Nat.le_trans b1.size (Nat.le_trans b2.size b3.size)
end Go.Proofs.Ytegcpedgdldodaa

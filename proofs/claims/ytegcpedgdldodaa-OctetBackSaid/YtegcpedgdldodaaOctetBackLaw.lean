/- The walk of the law OctetBack. -/
import Derived.Test.YtegcpedgdldodaaOctW4
import Derived.Test.YtegcpedgdldodaaOctBackP
import Derived.Deep.RegionWith
import Derived.Deep.QuietTactic
import Derived.BigQuiet
import Derived.WalkSmall
import Derived.Deep.RegionHeld3
namespace Go.Proofs.Ytegcpedgdldodaa
set_option linter.unusedVariables false
set_option linter.unusedSimpArgs false
open Go.RowKit Oct
attribute [local go_sem] ByteArray.mk_append_mk ByteArray.extract_mk

theorem text_at {l : List UInt8} (w : World) (hm : l.length < 1000000000) :
    Calls Try.prog 14 #[.string ⟨l.toArray⟩] w fun e w' => e = .returned (.string ⟨(text l).toArray⟩) ∧ Below w.heap.size w w' := text_any l w hm

theorem text_at' {l m : List UInt8} (w : World) (hm : l.length < 1000000000) (h : text l = m) :
    Calls Try.prog 14 #[.string ⟨l.toArray⟩] w fun e w' => e = .returned (.string ⟨m.toArray⟩) ∧ Below w.heap.size w w' := by rw [← h]; exact text_any l w hm
theorem chain {w w1 w2 : World} (a : Below w.heap.size w w1) (b : Below w1.heap.size w1 w2) : Below w.heap.size w w2 := a.trans (b.mono a.size)

set_option maxRecDepth 20000 in
set_option maxHeartbeats 1000000 in
theorem back_great (a most : Int) (s t : List UInt8) (hs : s.length ≤ maxLen) (ht : t.length ≤ maxLen) (h : 8192 < t.length ∨ 8192 < s.length) (w : World) :
    Calls Try.prog 5 #[.int .u64 a, .string ⟨t.toArray⟩, .string ⟨s.toArray⟩, .int .i64 most] w fun e w' => e = .returned (.bool true) ∧ Below w.heap.size w w' := by
  unfold maxLen at hs ht
  by_cases h1 : 8192 < t.length
  · clear h
    go_enter Try.func5, Try.ntmps5
    go_wp2_with fail
    refine (alive_any _).mono ?_; rintro e w' ⟨rfl, hb⟩
    go_wp2
    go_ret
    exact ⟨rfl, hb⟩
  · have h2 : 8192 < s.length := by omega
    clear h
    go_enter Try.func5, Try.ntmps5
    go_wp2_with fail
    refine (alive_any _).mono ?_; rintro e w' ⟨rfl, hb⟩
    go_wp2
    go_ret
    exact ⟨rfl, hb⟩

set_option maxRecDepth 20000 in
set_option maxHeartbeats 2000000 in
theorem back_ff (x : Nat) (hx : x < 256 ^ 8) (most : Int) (hmo : -9223372036854775808 ≤ most ∧ most ≤ 9223372036854775807) (s t : List UInt8) (h1 : ¬ 8192 < t.length) (h2 : ¬ 8192 < s.length) (w : World)
    (c k : Nat) (g : Nat) (hg : readNum s = (c, k, g)) (hg0 : g ≠ 0) (d : List UInt8) (j : Nat) (h : Nat) (hh : readText s most = (d, j, h)) (hh0 : h ≠ 0) :
    Calls Try.prog 5 #[.int .u64 x, .string ⟨t.toArray⟩, .string ⟨s.toArray⟩, .int .i64 most] w fun e w' => e = .returned (.bool true) ∧ Below w.heap.size w w' := by
  have lx := num_length_le x
  have lt := num_length_le t.length
  have ltt := text_length t
  have g1 : ((g : Int) == 0) = false := by simp; omega
  have hh1 : ((h : Int) == 0) = false := by simp; omega
  have NX := Lib.hid fun w => num_any x w hx
  have RX := Lib.hid fun w => readnum_at (l := num x ++ s) w (by rw [List.length_append]; omega) (read_num_back hx s)
  have TT := Lib.hid fun w => text_at (l := t) w (by omega)
  have RT := Lib.hid fun w => readtext_at (l := text t ++ s) (most := t.length) w (by rw [List.length_append]; omega) (by omega) (read_text_back (t := t) (by rw [p8]; omega) s)
  have RS := Lib.hid fun w => readnum_at (l := s) w (by omega) hg
  have QS := Lib.hid fun w => readtext_at (l := s) w (by omega) hmo.2 hh
  have LT : (text t).length ≤ 8210 := by omega
  clear hx hg hh ltt lt
  obtain ⟨m1, m2⟩ := hmo
  go_enter Try.func5, Try.ntmps5
  go_wp2_with fail
  refine (NX.out _).mono ?_; rintro e w1 ⟨rfl, b1⟩
  go_wp2_with fail
  refine (RX.out _).mono ?_; rintro e w' ⟨rfl, rfl⟩
  go_wp2_with fail
  refine (TT.out _).mono ?_; rintro e w2 ⟨rfl, b2⟩
  go_wp2_with fail
  refine (RT.out _).mono ?_; rintro e w' ⟨rfl, rfl⟩
  go_wp2_with fail
  refine (NX.out _).mono ?_; rintro e w3 ⟨rfl, b3⟩
  go_wp2_with fail
  refine (TT.out _).mono ?_; rintro e w4 ⟨rfl, b4⟩
  go_wp2_with fail
  refine (RS.out _).mono ?_; rintro e w' ⟨rfl, rfl⟩
  go_wp2_with fail
  have B := Lib.hid (chain (chain (chain b1 b2) b3) b4)
  clear NX RX TT RT RS b1 b2 b3 b4
  go_quiet (fail)
  go_wp2_with fail
  refine (QS.out _).mono ?_; rintro e w' ⟨rfl, rfl⟩
  go_wp2_with fail
  go_quiet (fail)
  go_wp2_with fail
  refine (alive_any _).mono ?_; rintro e w7 ⟨rfl, b7⟩
  go_wp2
  go_ret
  exact ⟨rfl, chain (below_drewN B.out _) b7⟩

set_option maxRecDepth 20000 in
set_option maxHeartbeats 2000000 in
theorem back_tf (x : Nat) (hx : x < 256 ^ 8) (most : Int) (hmo : -9223372036854775808 ≤ most ∧ most ≤ 9223372036854775807) (s t : List UInt8) (h1 : ¬ 8192 < t.length) (h2 : ¬ 8192 < s.length) (w : World)
    (c k : Nat) (hg : readNum s = (c, k, 0)) (d : List UInt8) (j : Nat) (h : Nat) (hh : readText s most = (d, j, h)) (hh0 : h ≠ 0) :
    Calls Try.prog 5 #[.int .u64 x, .string ⟨t.toArray⟩, .string ⟨s.toArray⟩, .int .i64 most] w fun e w' => e = .returned (.bool true) ∧ Below w.heap.size w w' := by
  have lx := num_length_le x
  have lt := num_length_le t.length
  have ltt := text_length t
  obtain ⟨k1, k2, k9, c8, hk⟩ := read_num_front hg
  have hk1 : decide ((k : Int) < 1) = false := by simp; omega
  have hk2 : decide ((s.length : Int) < k) = false := by simp; omega
  have hk3 : decide (s.length < k) = false := by simp; omega
  have k2' : (k : Int) ≤ s.length := by omega
  have NC := Lib.hid fun w => num_at (v := c) w c8 hk
  clear hk c8
  have hh1 : ((h : Int) == 0) = false := by simp; omega
  have NX := Lib.hid fun w => num_any x w hx
  have RX := Lib.hid fun w => readnum_at (l := num x ++ s) w (by rw [List.length_append]; omega) (read_num_back hx s)
  have TT := Lib.hid fun w => text_at (l := t) w (by omega)
  have RT := Lib.hid fun w => readtext_at (l := text t ++ s) (most := t.length) w (by rw [List.length_append]; omega) (by omega) (read_text_back (t := t) (by rw [p8]; omega) s)
  have RS := Lib.hid fun w => readnum_at (l := s) w (by omega) hg
  have QS := Lib.hid fun w => readtext_at (l := s) w (by omega) hmo.2 hh
  have LT : (text t).length ≤ 8210 := by omega
  clear hx hg hh ltt lt
  obtain ⟨m1, m2⟩ := hmo
  go_enter Try.func5, Try.ntmps5
  go_wp2_with fail
  refine (NX.out _).mono ?_; rintro e w1 ⟨rfl, b1⟩
  go_wp2_with fail
  refine (RX.out _).mono ?_; rintro e w' ⟨rfl, rfl⟩
  go_wp2_with fail
  refine (TT.out _).mono ?_; rintro e w2 ⟨rfl, b2⟩
  go_wp2_with fail
  refine (RT.out _).mono ?_; rintro e w' ⟨rfl, rfl⟩
  go_wp2_with fail
  refine (NX.out _).mono ?_; rintro e w3 ⟨rfl, b3⟩
  go_wp2_with fail
  refine (TT.out _).mono ?_; rintro e w4 ⟨rfl, b4⟩
  go_wp2_with fail
  refine (RS.out _).mono ?_; rintro e w' ⟨rfl, rfl⟩
  go_wp2_with fail
  have B := Lib.hid (chain (chain (chain b1 b2) b3) b4)
  clear NX RX TT RT RS b1 b2 b3 b4
  go_region_held3 (fun _ => True) (first | trivial) (first | (go_at_call 11; with_reducible refine (NC.out _).mono ?_; rintro e w5 ⟨rfl, b5⟩))
  have B2 := Lib.hid (chain B.out.drew b5)
  clear B
  go_wp2_with fail
  refine (QS.out _).mono ?_; rintro e w' ⟨rfl, rfl⟩
  go_wp2_with fail
  go_quiet (fail)
  go_wp2_with fail
  refine (alive_any _).mono ?_; rintro e w7 ⟨rfl, b7⟩
  go_wp2
  go_ret
  exact ⟨rfl, chain (below_drewN B2.out _) b7⟩

set_option maxRecDepth 20000 in
set_option maxHeartbeats 2000000 in
theorem back_ft (x : Nat) (hx : x < 256 ^ 8) (most : Int) (hmo : -9223372036854775808 ≤ most ∧ most ≤ 9223372036854775807) (s t : List UInt8) (h1 : ¬ 8192 < t.length) (h2 : ¬ 8192 < s.length) (w : World)
    (c k : Nat) (g : Nat) (hg : readNum s = (c, k, g)) (hg0 : g ≠ 0) (d : List UInt8) (j : Nat) (hh : readText s most = (d, j, 0)) :
    Calls Try.prog 5 #[.int .u64 x, .string ⟨t.toArray⟩, .string ⟨s.toArray⟩, .int .i64 most] w fun e w' => e = .returned (.bool true) ∧ Below w.heap.size w w' := by
  have lx := num_length_le x
  have lt := num_length_le t.length
  have ltt := text_length t
  have g1 : ((g : Int) == 0) = false := by simp; omega
  obtain ⟨j1, j2, dm, hj, _⟩ := read_text_front hh
  have hj1 : decide ((j : Int) < 1) = false := by simp; omega
  have hj2 : decide ((s.length : Int) < j) = false := by simp; omega
  have hj3 : decide (s.length < j) = false := by simp; omega
  have hj4 : decide (max most 0 < (d.length : Int)) = false := by rw [decide_eq_false_iff_not]; omega
  have j2' : (j : Int) ≤ s.length := by omega
  have ld : d.length < 1000000000 := by
    have h3 := text_length d
    rw [hj, List.length_take] at h3
    omega
  have TD := Lib.hid fun w => text_at' (l := d) w ld hj
  clear hj ld
  have NX := Lib.hid fun w => num_any x w hx
  have RX := Lib.hid fun w => readnum_at (l := num x ++ s) w (by rw [List.length_append]; omega) (read_num_back hx s)
  have TT := Lib.hid fun w => text_at (l := t) w (by omega)
  have RT := Lib.hid fun w => readtext_at (l := text t ++ s) (most := t.length) w (by rw [List.length_append]; omega) (by omega) (read_text_back (t := t) (by rw [p8]; omega) s)
  have RS := Lib.hid fun w => readnum_at (l := s) w (by omega) hg
  have QS := Lib.hid fun w => readtext_at (l := s) w (by omega) hmo.2 hh
  have LT : (text t).length ≤ 8210 := by omega
  clear hx hg hh ltt lt
  obtain ⟨m1, m2⟩ := hmo
  go_enter Try.func5, Try.ntmps5
  go_wp2_with fail
  refine (NX.out _).mono ?_; rintro e w1 ⟨rfl, b1⟩
  go_wp2_with fail
  refine (RX.out _).mono ?_; rintro e w' ⟨rfl, rfl⟩
  go_wp2_with fail
  refine (TT.out _).mono ?_; rintro e w2 ⟨rfl, b2⟩
  go_wp2_with fail
  refine (RT.out _).mono ?_; rintro e w' ⟨rfl, rfl⟩
  go_wp2_with fail
  refine (NX.out _).mono ?_; rintro e w3 ⟨rfl, b3⟩
  go_wp2_with fail
  refine (TT.out _).mono ?_; rintro e w4 ⟨rfl, b4⟩
  go_wp2_with fail
  refine (RS.out _).mono ?_; rintro e w' ⟨rfl, rfl⟩
  go_wp2_with fail
  have B := Lib.hid (chain (chain (chain b1 b2) b3) b4)
  clear NX RX TT RT RS b1 b2 b3 b4
  go_quiet (fail)
  go_wp2_with fail
  refine (QS.out _).mono ?_; rintro e w' ⟨rfl, rfl⟩
  go_wp2_with fail
  go_region_held3 (fun _ => True) (first | trivial) (first | (go_at_call 14; with_reducible refine (TD.out _).mono ?_; rintro e w6 ⟨rfl, b6⟩))
  go_wp2_with fail
  refine (alive_any _).mono ?_; rintro e w7 ⟨rfl, b7⟩
  go_wp2
  go_ret
  exact ⟨rfl, by first | exact chain (chain (below_drewN B.out _).drew b6) b7 | exact chain (chain (below_drewN B.out _) b6) b7⟩

set_option maxRecDepth 20000 in
set_option maxHeartbeats 2000000 in
theorem back_tt (x : Nat) (hx : x < 256 ^ 8) (most : Int) (hmo : -9223372036854775808 ≤ most ∧ most ≤ 9223372036854775807) (s t : List UInt8) (h1 : ¬ 8192 < t.length) (h2 : ¬ 8192 < s.length) (w : World)
    (c k : Nat) (hg : readNum s = (c, k, 0)) (d : List UInt8) (j : Nat) (hh : readText s most = (d, j, 0)) :
    Calls Try.prog 5 #[.int .u64 x, .string ⟨t.toArray⟩, .string ⟨s.toArray⟩, .int .i64 most] w fun e w' => e = .returned (.bool true) ∧ Below w.heap.size w w' := by
  have lx := num_length_le x
  have lt := num_length_le t.length
  have ltt := text_length t
  obtain ⟨k1, k2, k9, c8, hk⟩ := read_num_front hg
  have hk1 : decide ((k : Int) < 1) = false := by simp; omega
  have hk2 : decide ((s.length : Int) < k) = false := by simp; omega
  have hk3 : decide (s.length < k) = false := by simp; omega
  have k2' : (k : Int) ≤ s.length := by omega
  have NC := Lib.hid fun w => num_at (v := c) w c8 hk
  clear hk c8
  obtain ⟨j1, j2, dm, hj, _⟩ := read_text_front hh
  have hj1 : decide ((j : Int) < 1) = false := by simp; omega
  have hj2 : decide ((s.length : Int) < j) = false := by simp; omega
  have hj3 : decide (s.length < j) = false := by simp; omega
  have hj4 : decide (max most 0 < (d.length : Int)) = false := by rw [decide_eq_false_iff_not]; omega
  have j2' : (j : Int) ≤ s.length := by omega
  have ld : d.length < 1000000000 := by
    have h3 := text_length d
    rw [hj, List.length_take] at h3
    omega
  have TD := Lib.hid fun w => text_at' (l := d) w ld hj
  clear hj ld
  have NX := Lib.hid fun w => num_any x w hx
  have RX := Lib.hid fun w => readnum_at (l := num x ++ s) w (by rw [List.length_append]; omega) (read_num_back hx s)
  have TT := Lib.hid fun w => text_at (l := t) w (by omega)
  have RT := Lib.hid fun w => readtext_at (l := text t ++ s) (most := t.length) w (by rw [List.length_append]; omega) (by omega) (read_text_back (t := t) (by rw [p8]; omega) s)
  have RS := Lib.hid fun w => readnum_at (l := s) w (by omega) hg
  have QS := Lib.hid fun w => readtext_at (l := s) w (by omega) hmo.2 hh
  have LT : (text t).length ≤ 8210 := by omega
  clear hx hg hh ltt lt
  obtain ⟨m1, m2⟩ := hmo
  go_enter Try.func5, Try.ntmps5
  go_wp2_with fail
  refine (NX.out _).mono ?_; rintro e w1 ⟨rfl, b1⟩
  go_wp2_with fail
  refine (RX.out _).mono ?_; rintro e w' ⟨rfl, rfl⟩
  go_wp2_with fail
  refine (TT.out _).mono ?_; rintro e w2 ⟨rfl, b2⟩
  go_wp2_with fail
  refine (RT.out _).mono ?_; rintro e w' ⟨rfl, rfl⟩
  go_wp2_with fail
  refine (NX.out _).mono ?_; rintro e w3 ⟨rfl, b3⟩
  go_wp2_with fail
  refine (TT.out _).mono ?_; rintro e w4 ⟨rfl, b4⟩
  go_wp2_with fail
  refine (RS.out _).mono ?_; rintro e w' ⟨rfl, rfl⟩
  go_wp2_with fail
  have B := Lib.hid (chain (chain (chain b1 b2) b3) b4)
  clear NX RX TT RT RS b1 b2 b3 b4
  go_region_held3 (fun _ => True) (first | trivial) (first | (go_at_call 11; with_reducible refine (NC.out _).mono ?_; rintro e w5 ⟨rfl, b5⟩))
  have B2 := Lib.hid (chain B.out.drew b5)
  clear B
  go_wp2_with fail
  refine (QS.out _).mono ?_; rintro e w' ⟨rfl, rfl⟩
  go_wp2_with fail
  go_region_held3 (fun _ => True) (first | trivial) (first | (go_at_call 14; with_reducible refine (TD.out _).mono ?_; rintro e w6 ⟨rfl, b6⟩))
  have B3 := Lib.hid (chain B2.out.drew b6)
  go_wp2_with fail
  refine (alive_any _).mono ?_; rintro e w7 ⟨rfl, b7⟩
  go_wp2
  go_ret
  exact ⟨rfl, chain B3.out b7⟩

theorem law_OctetBack (a : Int) (ha : (Lit.int .u64 a).wf = true) (t : List UInt8) (ht : t.length ≤ maxLen) (s : List UInt8) (hs : s.length ≤ maxLen) (most : Int) (hm : (Lit.int .i64 most).wf = true) (w : World) :
    Calls Try.prog 5 #[.int .u64 a, .string ⟨t.toArray⟩, .string ⟨s.toArray⟩, .int .i64 most] w fun e w' => e = .returned (.bool true) ∧ Below w.heap.size w w' := by
  obtain ⟨x, rfl, hx⟩ := nat_of_u64 ha
  have hmo := bounds_i64 hm
  by_cases h : 8192 < t.length ∨ 8192 < s.length
  · exact back_great _ most s t hs ht h w
  · rcases hg : readNum s with ⟨c, k, g⟩
    rcases hh : readText s most with ⟨d, j, e⟩
    by_cases g0 : g = 0
    · subst g0
      by_cases e0 : e = 0
      · subst e0; exact back_tt x hx most hmo s t (by omega) (by omega) w c k hg d j hh
      · exact back_tf x hx most hmo s t (by omega) (by omega) w c k hg d j e hh e0
    · by_cases e0 : e = 0
      · subst e0; exact back_ft x hx most hmo s t (by omega) (by omega) w c k g hg g0 d j hh
      · exact back_ff x hx most hmo s t (by omega) (by omega) w c k g hg g0 d j e hh e0
end Go.Proofs.Ytegcpedgdldodaa

/- The walk of the law OctetApart. -/
import Derived.Test.YtegcpedgdldodaaOctW5
import Derived.Test.YtegcpedgdldodaaOctW6
import Derived.OpenShut
import Derived.Deep.RegionHeld3
namespace Go.Proofs.Ytegcpedgdldodaa
set_option linter.unusedVariables false
set_option linter.unusedSimpArgs false
open Go.RowKit Oct

theorem chainA {w w1 w2 : World} (a : Below w.heap.size w w1) (b : Below w1.heap.size w1 w2) : Below w.heap.size w w2 := a.trans (b.mono a.size)

theorem IsStrs.form {w : World} {v : Value} {ls : List (List UInt8)} (h : IsStrs w v ls) : ∃ A c, v = .slice A ls.length c := by
  rcases h with ⟨rfl, a, cap, rfl, _⟩ | ⟨b, off, cap, h1, _⟩
  · exact ⟨a, cap, rfl⟩
  · exact ⟨_, cap, h1⟩
theorem IsStrs.at {w : World} {A : Option Addr} {n c : Nat} {ls : List (List UInt8)} (h : IsStrs w (.slice A n c) ls) (k : Nat) (hk : k < ls.length) :
    ∃ b off, A = some ⟨b, off, none⟩ ∧ b < w.heap.size ∧ w.cell? ⟨b, off + k, none⟩ = some (.string ⟨(ls[k]).toArray⟩) := by
  rcases h with ⟨rfl, a, cap, _, _⟩ | ⟨b, off, cap, h1, h2, h3, h4, h5, h6⟩
  · simp at hk
  · injection h1 with e1 e2 e3
    exact ⟨b, off, e1, h5, h6 k hk⟩

set_option maxRecDepth 20000 in
set_option maxHeartbeats 1000000 in
theorem apart_long1 (x y : Int) (a b : List (List UInt8)) (u v : Value) (w : World) (hu : IsStrs w u a) (hv : IsStrs w v b) (hl : longB a = true) :
    Calls Try.prog 6 #[.int .u64 x, .int .u64 y, u, v] w fun e w' => e = .returned (.bool true) ∧ Below w.heap.size w w' := by
  have LA := Lib.hid (long_any u a w hu)
  clear hu hv
  go_enter Try.func6, Try.ntmps6
  go_wp2_with fail
  refine LA.out.mono ?_; rintro e w' ⟨rfl, rfl⟩
  go_wp2_with fail
  refine (alive_any _).mono ?_; rintro e w' ⟨rfl, hb⟩
  go_wp2
  go_ret
  exact ⟨rfl, hb⟩

set_option maxRecDepth 20000 in
set_option maxHeartbeats 1000000 in
theorem apart_long2 (x y : Int) (a b : List (List UInt8)) (u v : Value) (w : World) (hu : IsStrs w u a) (hv : IsStrs w v b) (hl : longB a = false) (hl2 : longB b = true) :
    Calls Try.prog 6 #[.int .u64 x, .int .u64 y, u, v] w fun e w' => e = .returned (.bool true) ∧ Below w.heap.size w w' := by
  have LA := Lib.hid (long_any u a w hu)
  have LB := Lib.hid (long_any v b w hv)
  clear hu hv
  go_enter Try.func6, Try.ntmps6
  go_wp2_with fail
  refine LA.out.mono ?_; rintro e w' ⟨rfl, rfl⟩
  go_wp2_with fail
  refine LB.out.mono ?_; rintro e w' ⟨rfl, rfl⟩
  go_wp2_with fail
  refine (alive_any _).mono ?_; rintro e w' ⟨rfl, hb⟩
  go_wp2
  go_ret
  exact ⟨rfl, hb⟩

set_option maxRecDepth 20000 in
set_option maxHeartbeats 4000000 in
theorem apart_small (x y : Nat) (hx : x < 256 ^ 8) (hy : y < 256 ^ 8) (a b : List (List UInt8)) (A B : Option Addr) (c d : Nat) (w : World) (hu : IsStrs w (.slice A a.length c) a) (hv : IsStrs w (.slice B b.length d) b) (hl : longB a = false) (hl2 : longB b = false) :
    Calls Try.prog 6 #[.int .u64 x, .int .u64 y, .slice A a.length c, .slice B b.length d] w fun e w' => e = .returned (.bool true) ∧ Below w.heap.size w w' := by
  obtain ⟨ta, na⟩ := longB_false hl
  obtain ⟨tb, nb⟩ := longB_false hl2
  have LA := Lib.hid (long_any _ a w hu)
  have LB := Lib.hid (long_any _ b w hv)
  have NX := Lib.hid fun w => num_any x w hx
  have NY := Lib.hid fun w => num_any y w hy
  have BG := Lib.hid fun w => begins_any (num x) (num y) (by have := num_length_le x; omega) w
  obtain ⟨p, hp⟩ : ∃ p, beginsB (num x) (num y) = p := ⟨_, rfl⟩
  have hp2 : ((x : Int) == (y : Int)) = p := by
    rw [← hp, begins_num hx hy, Bool.eq_iff_iff, beq_iff_eq, decide_eq_true_iff]; omega
  have HU := Lib.hid hu
  have HV := Lib.hid hv
  clear hu hv hx hy
  go_enter Try.func6, Try.ntmps6
  go_wp2_with fail
  refine LA.out.mono ?_; rintro e w' ⟨rfl, rfl⟩
  go_wp2_with fail
  refine LB.out.mono ?_; rintro e w' ⟨rfl, rfl⟩
  go_wp2_with fail
  refine (NX.out _).mono ?_; rintro e w1 ⟨rfl, b1⟩
  go_wp2_with fail
  refine (NY.out _).mono ?_; rintro e w2 ⟨rfl, b2⟩
  go_wp2_with fail
  refine (BG.out _).mono ?_; rintro e w' ⟨rfl, rfl⟩
  go_wp2_with fail
  have B0 := Lib.hid (chainA b1 b2)
  clear b1 b2 LA LB NX NY BG
  go_loopw [9] (fun i wr => ∃ k : Nat, k ≤ a.length ∧ k ≤ b.length ∧ i = .int .i64 k ∧ Below w.heap.size w wr) (fun i _ => a.length - (intOf i).toNat)
  case atStart => exact ⟨0, by omega, by omega, rfl, B0.out⟩
  case round =>
    obtain ⟨k, ka, kb, rfl, hB⟩ := hrel
    have HB := Lib.hid hB
    clear hB
    by_cases hk : k < a.length ∧ k < b.length
    · obtain ⟨k1, k2⟩ := hk
      obtain ⟨b1, o1, rfl, l1, c1⟩ := (HU.out.later HB.out).at k k1
      obtain ⟨b2, o2, rfl, l2, c2⟩ := (HV.out.later HB.out).at k k2
      have g1 := total_ge a k k1
      have g2 := total_ge b k k2
      generalize a[k]'k1 = s at *
      generalize b[k]'k2 = t at *
      have TP := Lib.hid fun w => text_any s w (by omega)
      have TQ := Lib.hid fun w => text_any t w (by omega)
      have lt := text_length s
      have ln := num_length_le s.length
      have BT := Lib.hid fun w => begins_any (text s) (text t) (by omega) w
      obtain ⟨r, hr⟩ : ∃ r, beginsB (text s) (text t) = r := ⟨_, rfl⟩
      have hr2 : (s == t) = r := by
        rw [← hr, begins_text (by rw [p8]; omega) (by rw [p8]; omega), Bool.eq_iff_iff, beq_iff_eq, decide_eq_true_iff]
      have i1 : (k : Int) < a.length := by omega
      have i2 : (k : Int) < b.length := by omega
      clear HU HV lt ln l1 l2
      go_wp2
      go_region_held3 (fun w' => w'.cell? ⟨b1, o1 + k, none⟩ = some (.string ⟨s.toArray⟩) ∧ w'.cell? ⟨b2, o2 + k, none⟩ = some (.string ⟨t.toArray⟩)) (go_keep) (first
        | (go_at_call 14; with_reducible refine (TP.out _).mono ?_; rintro e w5 ⟨rfl, b5⟩; have d1 : w5.cell? ⟨b1, o1 + k, none⟩ = some (.string ⟨s.toArray⟩) := cell_later b5 (by simp [*]); have d2 : w5.cell? ⟨b2, o2 + k, none⟩ = some (.string ⟨t.toArray⟩) := cell_later b5 (by simp [*]))
        | (go_at_call 14; with_reducible refine (TQ.out _).mono ?_; rintro e w6 ⟨rfl, b6⟩; have d3 : w6.cell? ⟨b1, o1 + k, none⟩ = some (.string ⟨s.toArray⟩) := cell_later b6 (by simp [*]); have d4 : w6.cell? ⟨b2, o2 + k, none⟩ = some (.string ⟨t.toArray⟩) := cell_later b6 (by simp [*]))
        | (go_at_call 16; with_reducible refine (BT.out _).mono ?_; rintro e w' ⟨rfl, rfl⟩))
      all_goals
        go_wp2
        go_roundw
        case rel =>
          refine ⟨k + 1, by omega, by omega, by go_num, ?_⟩
          first
            | exact chainA (chainA HB.out.drew b5) b6
            | exact chainA (chainA HB.out.drew b6) b5
        case measure => simp [intOf]; omega
    · by_cases hlen : a.length = b.length
      · have kk : k = a.length := by omega
        subst kk
        have f1 : decide ((a.length : Int) < a.length) = false := by simp
        have f2 : ((a.length : Int) == b.length) = true := by rw [beq_iff_eq]; omega
        have f3 : ((a.length : Int) != b.length) = false := by rw [bne_eq_false_iff_eq]; omega
        have RA := Lib.hid fun v w h => row_any v a w h (by omega) (by omega)
        have RB := Lib.hid fun v w h => row_any v b w h (by omega) (by omega)
        have SA := Lib.hid fun w h1 h2 => same_any (.slice A a.length c) (.slice B b.length d) a b w h1 h2
        obtain ⟨r, hr⟩ : ∃ r, sameB a b = r := ⟨_, rfl⟩
        have hr2 : (row a == row b) = r := by
          rw [row_same hlen ta tb, ← hr]; rfl
        have lra := row_length a
        have lrb := row_length b
        clear hlen
        go_wp2_with (first
          | (at_builtin; refine wpList_append_copy rfl (.const (.slice none 0 0)) (.tmp 67) rfl rfl _ rfl a (HU.out.later HB.out) (by omega) ?_; intro v1 w1 s1 n1)
          | (at_builtin; refine wpList_append_copy rfl (.const (.slice none 0 0)) (.tmp 70) rfl rfl _ rfl b (HV.out.later (chainA (chainA HB.out n1) n2)) (by omega) ?_; intro v2 w2 s2 n3)
          | (go_at_call 17; with_reducible refine (RA.out _ _ s1).mono ?_; rintro e w3 ⟨rfl, n2⟩)
          | (go_at_call 17; with_reducible refine (RB.out _ _ s2).mono ?_; rintro e w4 ⟨rfl, n4⟩)
          | (go_at_call 18; with_reducible refine (SA.out _ (HU.out.later (chainA (chainA (chainA (chainA HB.out n1) n2) n3) n4)) (HV.out.later (chainA (chainA (chainA (chainA HB.out n1) n2) n3) n4))).mono ?_; rintro e w5 ⟨rfl, n5⟩)
          | (go_at_call 8; refine (alive_any _).mono ?_; rintro e w6 ⟨rfl, n6⟩))
        go_ret
        exact ⟨rfl, chainA (chainA (chainA (chainA (chainA (chainA HB.out n1) n2) n3) n4) n5) n6⟩
      · have f2 : ((a.length : Int) == b.length) = false := by rw [beq_eq_false_iff_ne]; omega
        have f3 : ((a.length : Int) != b.length) = true := by rw [bne_iff_ne]; omega
        by_cases k1 : k < a.length
        · have f4 : decide (k < b.length) = false := by simp; omega
          have f5 : decide ((k : Int) < b.length) = false := by simp; omega
          clear hk hlen
          go_wp2_with (go_at_call 8; refine (alive_any _).mono ?_; rintro e w6 ⟨rfl, n6⟩)
          go_ret
          exact ⟨rfl, chainA HB.out n6⟩
        · have f4 : decide (k < a.length) = false := by simp; omega
          have f5 : decide ((k : Int) < a.length) = false := by simp; omega
          clear hk hlen
          go_wp2_with (go_at_call 8; refine (alive_any _).mono ?_; rintro e w6 ⟨rfl, n6⟩)
          go_ret
          exact ⟨rfl, chainA HB.out n6⟩

theorem law_OctetApart (w : World) (x : Int) (hx : (Lit.int .u64 x).wf = true) (y : Int) (hy : (Lit.int .u64 y).wf = true) (u : Value) (a : List (List UInt8)) (hu : IsStrs w u a) (v : Value) (b : List (List UInt8)) (hv : IsStrs w v b) :
    Calls Try.prog 6 #[.int .u64 x, .int .u64 y, u, v] w fun e w' => e = .returned (.bool true) ∧ Below w.heap.size w w' := by
  obtain ⟨m, rfl, hm⟩ := nat_of_u64 hx
  obtain ⟨n, rfl, hn⟩ := nat_of_u64 hy
  by_cases h1 : longB a = true
  · exact apart_long1 _ _ a b u v w hu hv h1
  · rw [Bool.not_eq_true] at h1
    by_cases h2 : longB b = true
    · exact apart_long2 _ _ a b u v w hu hv h1 h2
    · rw [Bool.not_eq_true] at h2
      obtain ⟨A, c, rfl⟩ := hu.form
      obtain ⟨B, d, rfl⟩ := hv.form
      exact apart_small m n hm hn a b A B c d w hu hv h1 h2
end Go.Proofs.Ytegcpedgdldodaa

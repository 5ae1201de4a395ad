/- The walk of the law OctetTexts. -/
import Derived.Test.YtegcpedgdldodaaOctRR2
import Derived.Test.YtegcpedgdldodaaOctW6
import Derived.OpenShut
import Derived.Deep.RegionHeld3
namespace Go.Proofs.Ytegcpedgdldodaa
set_option linter.unusedVariables false
set_option linter.unusedSimpArgs false
open Go.RowKit Go.Shelf Oct

theorem IsStrs.formT {w : World} {v : Value} {ls : List (List UInt8)} (h : IsStrs w v ls) : ∃ A c, v = .slice A ls.length c := by
  rcases h with ⟨rfl, a, cap, rfl, _⟩ | ⟨b, off, cap, h1, _⟩
  · exact ⟨a, cap, rfl⟩
  · exact ⟨_, cap, h1⟩
theorem IsStrs.atT {w : World} {A : Option Addr} {n c : Nat} {ls : List (List UInt8)} (h : IsStrs w (.slice A n c) ls) (k : Nat) (hk : k < ls.length) :
    ∃ b off, A = some ⟨b, off, none⟩ ∧ b < w.heap.size ∧ w.cell? ⟨b, off + k, none⟩ = some (.string ⟨(ls[k]).toArray⟩) := by
  rcases h with ⟨rfl, a, cap, _, _⟩ | ⟨b, off, cap, h1, h2, h3, h4, h5, h6⟩
  · simp at hk
  · injection h1 with e1 e2 e3
    exact ⟨b, off, e1, h5, h6 k hk⟩
/-- append([]string(nil), l...), where a guard lets it be. -/
theorem wpList_append_copy_g {w : World} {ops : Array Oper} {rest : List Oper} {o : Oper} {a : Act} {Q : Exit → Act → World → Prop} (hw : Region.wanted o (yielded ops a.tmps) = true) (s x : Operand)
    (ho : o.op = .call { callee := .builtin .append, args := #[s, x], argTypes := #[34, 34] }) (hs : a.eval s = .slice none 0 0)
    (v : Value) (hx : a.eval x = v) (ls : List (List UInt8)) (hv : IsStrs w v ls) (hl : ls.length * 16 ≤ 140737488355328)
    (h : ∀ v' w', IsStrs w' v' ls → Below w.heap.size w w' → wpList Try.prog ops Q rest (a.put o.dst v') w') : wpList Try.prog ops Q (o :: rest) a w := by
  obtain ⟨i0, hi, hz0, hz1, hz2⟩ := info_parts info_str
  obtain ⟨v', w', hr, h1, h2⟩ := run_append_copy (P := Try.prog) w 34 o.type 9 i0 Try.underlying34 hi hz0 hz1 hz2 v ls hv hl
  refine wpList_step fun K hK => ?_
  rw [if_pos hw]
  unfold Oper.wp execOp
  simp only [ho, resolve, invoke, builtin, Sem.run_bind, Sem.run_pure, Result.andThen_ok, List.map_toArray, List.map_cons, List.map_nil, hs, hx, hr]
  exact hK _ _ (h v' w' h1 h2)
theorem sameB_self (a : List (List UInt8)) : sameB a a = true := by unfold sameB; exact decide_eq_true rfl

set_option maxRecDepth 20000 in
set_option maxHeartbeats 1000000 in
theorem texts_long (u : Value) (a : List (List UInt8)) (s : List UInt8) (count most : Int) (w : World) (hu : IsStrs w u a) (hl : longB a = true) :
    Calls Try.prog 7 #[u, .string ⟨s.toArray⟩, .int .i64 count, .int .i64 most] w fun e w' => e = .returned (.bool true) ∧ Below w.heap.size w w' := by
  have LA := Lib.hid (long_any u a w hu)
  clear hu
  go_enter Try.func7, Try.ntmps7
  go_wp2_with fail
  refine LA.out.mono ?_; rintro e w' ⟨rfl, rfl⟩
  rw [hl]
  go_wp2_with fail
  refine (alive_any _).mono ?_; rintro e w' ⟨rfl, hb⟩
  go_wp2
  go_ret
  exact ⟨rfl, hb⟩
set_option maxRecDepth 20000 in
set_option maxHeartbeats 1000000 in
theorem texts_great (u : Value) (a : List (List UInt8)) (s : List UInt8) (hs : s.length ≤ maxLen) (count most : Int) (w : World) (hu : IsStrs w u a) (hl : longB a = false) (hg : 8192 < s.length) :
    Calls Try.prog 7 #[u, .string ⟨s.toArray⟩, .int .i64 count, .int .i64 most] w fun e w' => e = .returned (.bool true) ∧ Below w.heap.size w w' := by
  unfold maxLen at hs
  have LA := Lib.hid (long_any u a w hu)
  have g1 : decide ((8192 : Int) < (s.length : Int)) = true := by rw [decide_eq_true_iff]; omega
  clear hu
  go_enter Try.func7, Try.ntmps7
  go_wp2_with fail
  refine LA.out.mono ?_; rintro e w' ⟨rfl, rfl⟩
  rw [hl]
  go_wp2_with fail
  refine (alive_any _).mono ?_; rintro e w' ⟨rfl, hb⟩
  go_wp2
  go_ret
  exact ⟨rfl, hb⟩

set_option maxRecDepth 20000 in
set_option maxHeartbeats 4000000 in
theorem texts_small (a : List (List UInt8)) (A : Option Addr) (c : Nat) (s : List UInt8) (hs : s.length ≤ 8192) (count most : Int) (hcl : -9223372036854775808 ≤ count) (hcg : count ≤ 9223372036854775807) (hlo : -9223372036854775808 ≤ most) (hmo : most ≤ 9223372036854775807) (w : World) (hu : IsStrs w (.slice A a.length c) a) (hl : longB a = false) :
    Calls Try.prog 7 #[.slice A a.length c, .string ⟨s.toArray⟩, .int .i64 count, .int .i64 most] w fun e w' => e = .returned (.bool true) ∧ Below w.heap.size w w' := by
  obtain ⟨ta, na⟩ := longB_false hl
  have LA := Lib.hid (long_any _ a w hu)
  have HU := Lib.hid hu
  have g1 : decide ((8192 : Int) < (s.length : Int)) = false := by rw [decide_eq_false_iff_not]; omega
  obtain ⟨T, N, E, hrt⟩ : ∃ T N E, readText s most = (T, N, E) := ⟨_, _, _, rfl⟩
  have R1 : Hid (∀ W, Calls Try.prog 13 #[.string ⟨s.toArray⟩, .int .i64 most] W fun e w' => e = .returned (.tuple #[.string ⟨T.toArray⟩, .int .i64 N, .int .i64 E]) ∧ W = w') := fun W => readtext_atR W (by omega) hmo hrt
  have R2 : Hid (∀ W, Calls Try.prog 20 #[.string ⟨s.toArray⟩, .int .i64 most] W fun e w' => e = .returned (.tuple #[.string ⟨T.toArray⟩, .int .i64 N, .int .i64 E]) ∧ Below W.heap.size W w') := fun W => rreadtext_at W (by omega) hlo hmo hrt
  have tt : (T != T) = false := by rw [bne_eq_false_iff_eq]
  obtain ⟨n, hn⟩ : ∃ n, n = min count 10000 := ⟨_, rfl⟩
  obtain ⟨L, P, F, hrr⟩ : ∃ L P F, readRow s n.toNat most = (L, P, F) := ⟨_, _, _, rfl⟩
  have Q1 : Hid (∀ W, Calls Try.prog 22 #[.string ⟨s.toArray⟩, .int .i64 (min count 10000), .int .i64 most] W fun e w' => ∃ lv, e = .returned (.tuple #[lv, .int .i64 P, .int .i64 F]) ∧ IsStrs w' lv L ∧ Below W.heap.size W w') := fun W => by
    have h := readrow_all s (by omega) most hmo n (by omega) W
    unfold RowRead at h
    rw [hrr, hn] at h
    exact h
  have Q2 : Hid (∀ W, Calls Try.prog 23 #[.string ⟨s.toArray⟩, .int .i64 (min count 10000), .int .i64 most] W fun e w' => ∃ lv, e = .returned (.tuple #[lv, .int .i64 P, .int .i64 F]) ∧ IsStrs w' lv L ∧ Below W.heap.size W w') := fun W => by
    have h := rreadrow_any s (by omega) most hlo hmo n (by omega) W
    unfold RowRead at h
    rw [hrr, hn] at h
    exact h
  have S1 : Hid (∀ (v u : Value) W, IsStrs W v L → IsStrs W u L → Calls Try.prog 18 #[v, u] W fun e w' => e = .returned (.bool true) ∧ Below W.heap.size W w') := fun v u W h1 h2 => by
    have h := same_any v u L L W h1 h2
    rw [sameB_self] at h
    exact h
  have RA := Lib.hid fun v w h => row_any v a w h (by omega) (by omega)
  have RB := Lib.hid fun v w h => rrow_any v a w h (by omega) (by omega)
  have lra := row_length a
  have rr : (row a != row a) = false := by rw [bne_eq_false_iff_eq]
  clear hu hrt hrr hn
  go_enter Try.func7, Try.ntmps7
  go_wp2_with fail
  refine LA.out.mono ?_; rintro e w' ⟨rfl, rfl⟩
  rw [hl]
  go_wp2_with fail
  clear LA
  go_loopw [9] (fun i wr => ∃ k : Nat, k ≤ a.length ∧ i = .int .i64 k ∧ Below w.heap.size w wr) (fun i _ => a.length - (intOf i).toNat)
  case atStart => exact ⟨0, by omega, rfl, Below.refl _ _⟩
  case round =>
    obtain ⟨k, ka, rfl, hB⟩ := hrel
    have HB := Lib.hid hB
    clear hB
    by_cases hk : k < a.length
    · obtain ⟨b1, o1, rfl, l1, c1⟩ := (HU.out.later HB.out).atT k hk
      have g2 := total_ge a k hk
      generalize a[k]'hk = t at *
      have TP := Lib.hid fun w => text_any t w (by omega)
      have TQ := Lib.hid fun w => rtext_any t w (by omega)
      have i1 : (k : Int) < a.length := by omega
      have i2 : decide ((k : Int) < a.length) = true := by rw [decide_eq_true_iff]; omega
      have xx : (text t != text t) = false := by rw [bne_eq_false_iff_eq]
      clear HU l1 R1 R2 Q1 Q2 S1 RA RB lra
      go_wp2
      go_region_held3 (fun w' => w'.cell? ⟨b1, o1 + k, none⟩ = some (.string ⟨t.toArray⟩)) (go_keep) (first
        | (go_at_call 14; with_reducible refine (TP.out _).mono ?_; rintro e w5 ⟨rfl, b5⟩; have d1 : w5.cell? ⟨b1, o1 + k, none⟩ = some (.string ⟨t.toArray⟩) := cell_later b5 (by simp [*]))
        | (go_at_call 19; with_reducible refine (TQ.out _).mono ?_; rintro e w6 ⟨rfl, b6⟩; have d3 : w6.cell? ⟨b1, o1 + k, none⟩ = some (.string ⟨t.toArray⟩) := cell_later b6 (by simp [*]))
        | fail)
      all_goals
        go_wp2
        go_roundw
        case rel =>
          refine ⟨k + 1, by omega, by go_num, ?_⟩
          first
            | exact below_moreR (below_moreR HB.out.drew b5 HB.out.drew.size) b6 (by first | exact (below_moreR HB.out.drew b5 HB.out.drew.size).size)
            | exact below_moreR (below_moreR HB.out.drew b6 HB.out.drew.size) b5 (by first | exact (below_moreR HB.out.drew b6 HB.out.drew.size).size)
        case measure => simp [intOf]; omega
    · obtain rfl : k = a.length := by omega
      have i2 : decide ((a.length : Int) < a.length) = false := by simp
      go_wp2_with (first
        | (go_at_call 13; with_reducible refine (R1.out _).mono ?_; rintro e w1 ⟨rfl, rfl⟩)
        | (go_at_call 20; with_reducible refine (R2.out _).mono ?_; rintro e w2 ⟨rfl, b2⟩; have B2 := Lib.hid (below_moreR HB.out b2 HB.out.size); clear b2)
        | (refine wpList_append_copy_g (o := ⟨some 76, _, _, _, _, _⟩) rfl (.const (.slice none 0 0)) (.tmp 75) rfl rfl _ rfl a (HU.out.later B2.out) (by omega) ?_; intro v3 w3 s3 n3; have B3 := Lib.hid (below_moreR B2.out n3 B2.out.size); have S3 := Lib.hid s3; clear n3 s3)
        | (go_at_call 17; with_reducible refine (RA.out _ _ S3.out).mono ?_; rintro e w4 ⟨rfl, n4⟩; have B4 := Lib.hid (below_moreR B3.out n4 B3.out.size); clear n4)
        | (go_at_call 21; with_reducible refine (RB.out _ _ (HU.out.later B4.out)).mono ?_; rintro e w5 ⟨rfl, n5⟩; have B5 := Lib.hid (below_moreR B4.out n5 B4.out.size); clear n5)
        | (go_at_call 22; with_reducible refine (Q1.out _).mono ?_; rintro e w6 ⟨lv1, rfl, s6, n6⟩; have B6 := Lib.hid (below_moreR B5.out n6 B5.out.size); have S6 := Lib.hid s6; clear s6 n6)
        | (go_at_call 23; with_reducible refine (Q2.out _).mono ?_; rintro e w7 ⟨lv2, rfl, s7, n7⟩; have B7 := Lib.hid (below_moreR B6.out n7 B6.out.size); have S7 := Lib.hid s7; have S6L := Lib.hid (S6.out.later n7); clear s7 n7)
        | (go_at_call 18; with_reducible refine (S1.out _ _ _ S6L.out S7.out).mono ?_; rintro e w8 ⟨rfl, n8⟩; have B8 := Lib.hid (below_moreR B7.out n8 B7.out.size); clear n8)
        | (go_at_call 8; refine (alive_any _).mono ?_; rintro e w9 ⟨rfl, n9⟩; have B9 := Lib.hid (below_moreR B8.out n9 B8.out.size); clear n9))
      go_ret
      exact ⟨rfl, B9.out⟩

theorem law_OctetTexts (w : World) (u : Value) (a : List (List UInt8)) (hu : IsStrs w u a) (s : List UInt8) (hs : s.length ≤ maxLen) (count : Int) (hc : (Lit.int .i64 count).wf = true) (most : Int) (hm : (Lit.int .i64 most).wf = true) :
    Calls Try.prog 7 #[u, .string ⟨s.toArray⟩, .int .i64 count, .int .i64 most] w fun e w' => e = .returned (.bool true) ∧ Below w.heap.size w w' := by
  have hmo := bounds_i64 hm
  have hco := bounds_i64 hc
  by_cases h1 : longB a = true
  · exact texts_long u a s count most w hu h1
  · rw [Bool.not_eq_true] at h1
    by_cases h2 : 8192 < s.length
    · exact texts_great u a s hs count most w hu h1 h2
    · obtain ⟨A, c, rfl⟩ := hu.formT
      exact texts_small a A c s (by omega) count most hco.1 hco.2 hmo.1 hmo.2 w hu h1
end Go.Proofs.Ytegcpedgdldodaa

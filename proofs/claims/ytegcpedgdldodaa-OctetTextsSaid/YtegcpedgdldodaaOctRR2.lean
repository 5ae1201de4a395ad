/- The walks of the reference's Text, Row, ReadRow; of octet's ReadRow, of any count. -/
import Derived.Test.YtegcpedgdldodaaOctRRow
import Derived.Test.YtegcpedgdldodaaOctR3
import Derived.Test.YtegcpedgdldodaaOctW5
namespace Go.Proofs.Ytegcpedgdldodaa
set_option linter.unusedVariables false
set_option linter.unusedSimpArgs false
open Go.RowKit Go.Shelf Oct
attribute [local go_sem] ByteArray.mk_append_mk ByteArray.extract_mk

theorem below_moreR {B : Nat} {w a b : World} (h : Below B w a) (k : Below a.heap.size a b) (hB : B ≤ a.heap.size) : Below B w b := h.trans (k.mono hB)

set_option maxRecDepth 20000 in
set_option maxHeartbeats 400000 in
/-- the reference's Text answers the text's bytes. -/
theorem rtext_any (l : List UInt8) (w : World) (hm : l.length < 1000000000) :
    Calls Try.prog 19 #[.string ⟨l.toArray⟩] w fun e w' => e = .returned (.string ⟨(text l).toArray⟩) ∧ Below w.heap.size w w' := by
  have hn := num_length_le l.length
  have HT := Lib.hid (show text l = num l.length ++ l from rfl)
  have HN := Lib.hid (rnum_any (w := w) l.length (by rw [p8]; omega))
  go_enter Try.func19, Try.ntmps19
  go_wp2_with (go_at_call 12; refine HN.out.mono ?_; rintro e w' ⟨rfl, hb⟩)
  go_ret
  exact ⟨by rw [HT.out]; rfl, hb⟩

set_option maxRecDepth 20000 in
set_option maxHeartbeats 400000 in
theorem rrow_none (a : Option Addr) (cap : Nat) (w : World) :
    Calls Try.prog 21 #[.slice a 0 cap] w fun e w' => e = .returned (.string ⟨(row []).toArray⟩) ∧ Below w.heap.size w w' := by
  have HB := Lib.hid (show row [] = [] from rfl)
  go_enter Try.func21, Try.ntmps21
  go_wp2
  go_loop [3, 4] (fun s i => s = .string ⟨#[]⟩ ∧ i = .int .i64 0) (fun _ i => 0)
  case atStart => exact ⟨rfl, rfl⟩
  case round =>
    obtain ⟨rfl, rfl⟩ := hrel
    go_wp2
    go_ret
    exact ⟨by rw [HB.out]; rfl, Below.refl _ _⟩

set_option maxRecDepth 20000 in
set_option maxHeartbeats 1000000 in
theorem rrow_some (ls : List (List UInt8)) (b off cap : Nat) (w : World) (h0 : 0 < ls.length) (hm : ls.length ≤ maxLen) (hb : b < w.heap.size) (ht : total ls < 100000000) (hn : ls.length < 10000000)
    (hc : ∀ i (h : i < ls.length), w.cell? ⟨b, off + i, none⟩ = some (.string ⟨(ls[i]).toArray⟩)) :
    Calls Try.prog 21 #[.slice (some ⟨b, off, none⟩) ls.length cap] w fun e w' => e = .returned (.string ⟨(row ls).toArray⟩) ∧ Below w.heap.size w w' := by
  unfold maxLen at hm
  have HT := Lib.hid fun (l : List UInt8) (w : World) (h : l.length < 1000000000) => rtext_any l w h
  have HG := Lib.hid fun (k : Nat) (h : k < ls.length) => total_ge ls k h
  have HR := Lib.hid fun (k : Nat) (h : k < ls.length) => row_take_succ ls k h
  have HL := Lib.hid fun (k : Nat) => row_take_le ls k
  have hl := row_length ls
  have hrl : (row ls).length < 1000000000 := by omega
  have HC := Lib.hid hc
  clear hc hl
  go_enter Try.func21, Try.ntmps21
  go_wp2
  go_loopw [3, 4] (fun s i wr => ∃ k : Nat, k ≤ ls.length ∧ s = .string ⟨(row (ls.take k)).toArray⟩ ∧ i = .int .i64 k ∧ Below w.heap.size w wr) (fun _ i _ => ls.length - (intOf i).toNat)
  case atStart => exact ⟨0, by omega, rfl, rfl, Below.refl _ _⟩
  case round =>
    obtain ⟨k, hk, rfl, rfl, hB⟩ := hrel
    by_cases hlt : k < ls.length
    · have hcell : wr.cell? ⟨b, off + k, none⟩ = some (.string ⟨(ls[k]).toArray⟩) := by rw [hB.cell (p := ⟨b, off + k, none⟩) hb]; exact HC.out k hlt
      have hg := HG.out k hlt
      have hr := Lib.hid (HR.out k hlt)
      have hl1 := HL.out k
      have hl2 := HL.out (k + 1)
      rw [hr.out, List.length_append] at hl2
      have HBB := Lib.hid hB
      clear hB
      generalize ls[k] = l at *
      generalize row (ls.take k) = q at *
      go_wp2_with (go_at_call 19; refine (HT.out l _ (by omega)).mono ?_; rintro e w1 ⟨rfl, b1⟩)
      go_roundw
      case rel => exact ⟨k + 1, by omega, by rw [hr.out], by go_num, HBB.out.trans (b1.mono HBB.out.size)⟩
      case measure => simp [intOf]; omega
    · obtain rfl : k = ls.length := by omega
      have HF := Lib.hid (show row (ls.take ls.length) = row ls by rw [List.take_length])
      have HBB := Lib.hid hB
      clear hB
      go_wp2
      go_ret
      exact ⟨by rw [← HF.out]; rfl, HBB.out⟩

/-- the reference's Row answers the bytes of the texts. -/
theorem rrow_any (v : Value) (ls : List (List UInt8)) (w : World) (hv : IsStrs w v ls) (ht : total ls < 100000000) (hn : ls.length < 10000000) :
    Calls Try.prog 21 #[v] w fun e w' => e = .returned (.string ⟨(row ls).toArray⟩) ∧ Below w.heap.size w w' := by
  rcases hv with ⟨rfl, a, cap, rfl, hm⟩ | ⟨b, off, cap, rfl, h0, h1, h2, h3, h4⟩
  · exact rrow_none a cap w
  · exact rrow_some ls b off cap w h0 (by omega) h3 ht hn h4

set_option maxRecDepth 20000 in
set_option maxHeartbeats 2000000 in
theorem rreadrow_none (s : List UInt8) (most n : Int) (hn : n ≤ 0) (w : World) :
    Calls Try.prog 23 #[.string ⟨s.toArray⟩, .int .i64 n, .int .i64 most] w (RowRead s most 0 w) := by
  have hd : decide ((0 : Int) < n) = false := by rw [decide_eq_false_iff_not]; omega
  go_enter Try.func23, Try.ntmps23
  go_wp2
  go_loop [9, 10, 11] (fun l a i => l = .slice none 0 0 ∧ a = .int .i64 0 ∧ i = .int .i64 0) (fun _ _ _ => 0)
  case atStart => exact ⟨rfl, rfl, rfl⟩
  case round =>
    obtain ⟨rfl, rfl, rfl⟩ := hrel
    go_wp2
    go_ret3
    exact ⟨_, rfl, .inl ⟨rfl, none, 0, rfl, Nat.zero_le _⟩, Below.refl _ _⟩

set_option maxRecDepth 20000 in
set_option maxHeartbeats 2000000 in
theorem rreadrow_some (s : List UInt8) (hs : s.length < 100000000) (most : Int) (hlo : -9223372036854775808 ≤ most) (hmo : most ≤ 9223372036854775807) (c : Nat) (hc : (c : Int) ≤ 9223372036854775807) (w : World) :
    Calls Try.prog 23 #[.string ⟨s.toArray⟩, .int .i64 c, .int .i64 most] w (RowRead s most c w) := by
  go_enter Try.func23, Try.ntmps23
  go_wp2
  go_loopw [9, 10, 11] (fun l a i wr => ∃ k p : Nat, k ≤ c ∧ Hid (ferr s most k = 0) ∧ Hid (OwnS wr w.heap.size l (txs s most k)) ∧ a = .int .i64 p ∧ Hid (p = plc s most k) ∧ i = .int .i64 k ∧ Hid (Below w.heap.size w wr)) (fun _ _ i _ => c - (intOf i).toNat)
  case atStart => exact ⟨0, 0, by omega, rfl, OwnS.nil _ _, rfl, rfl, rfl, Below.refl _ _⟩
  case round =>
    obtain ⟨k, p, hk, HF, HO, rfl, HP, rfl, HB⟩ := hrel
    have hpl : p ≤ s.length := by rw [HP.out]; exact plc_le s most k
    have hpi : (p : Int) ≤ s.length := by omega
    have hp0 : (0 : Int) ≤ p := by omega
    have hkp : k ≤ s.length := by have := plc_ge s most k HF.out; have := HP.out; omega
    obtain ⟨av, cv, hform⟩ := HO.out.form
    rw [txs_length] at hform
    subst hform
    by_cases hkc : k < c
    · have h1 : decide ((k : Int) < (c : Int)) = true := by rw [decide_eq_true_iff]; omega
      have h2 : (k : Int) < c := by omega
      rcases hrt : readText (s.drop p) most with ⟨r, n, e⟩
      have HRT := Lib.hid hrt
      have HER : Hid (e = er s most k ∧ r = tx s most k ∧ p + n = plc s most (k + 1)) := by
        unfold er tx
        simp only [plc]
        rw [← HP.out, hrt]
        exact ⟨rfl, rfl, rfl⟩
      have hpn : p + n ≤ s.length := by
        have := readText_le (s.drop p) most
        rw [hrt, List.length_drop] at this
        have := this.1
        simp only at this
        omega
      have htk : List.take (s.length - p) (List.drop p s) = List.drop p s := List.take_of_length_le (by rw [List.length_drop]; omega)
      obtain ⟨q, hq⟩ : ∃ q, q = p + n := ⟨_, rfl⟩
      have HQ := Lib.hid hq
      have e1 : IntKind.i64.wrap ((p : Int) + (n : Int)) = (q : Int) := by rw [IntWalk.i64_in _ (by omega)]; omega
      have e1' : (p : Int) + (n : Int) = (q : Int) := by omega
      clear hrt hq
      by_cases he : e = 0
      · have x1 : ((e : Int) != 0) = false := by rw [bne_eq_false_iff_eq]; omega
        have x2 : (e != 0) = false := by rw [bne_eq_false_iff_eq]; exact he
        have HE0 := Lib.hid he
        clear he
        go_wp2_with fail
        refine (rreadtext_at wr (by rw [List.length_drop]; omega) hlo hmo HRT.out).mono ?_; rintro e' w1 ⟨rfl, b1⟩
        have HO1 := Lib.hid (HO.out.below b1)
        have HB1 := Lib.hid (below_moreR HB.out b1 HB.out.size)
        have HX1 : Hid (IsStrs (w1.alloc (.cells #[.string ⟨r.toArray⟩] 9)) (.slice (some ⟨w1.heap.size, 0, none⟩) 1 1) [r]) := by
          refine .inr ⟨w1.heap.size, 0, 1, rfl, by simp, by simp, by unfold maxLen; omega, by simp, fun i hi => ?_⟩
          obtain rfl : i = 0 := by simpa using hi
          rw [cell_of_row _ _ _ _ _ _ (heap_alloc_new w1 (.cells #[.string ⟨r.toArray⟩] 9))]
          rfl
        have HO2 : Hid (OwnS (w1.alloc (.cells #[.string ⟨r.toArray⟩] 9)) w.heap.size (.slice av k cv) (txs s most k)) := HO1.out.kept (fun g hg => heap_alloc_old w1 _ (HO1.out.lt g hg).2)
        have HB2 : Hid (Below w.heap.size w (w1.alloc (.cells #[.string ⟨r.toArray⟩] 9))) := HB1.out.alloc HB1.out.size _
        clear b1
        go_wp2_with (refine wpList_append_strs (o := ⟨some 35, _, _, _, _, _⟩) rfl (.tmp 32) (.tmp 34) rfl w.heap.size HB2.out.size (.slice av k cv) (.slice (some ⟨w1.heap.size, 0, none⟩) 1 1) (txs s most k) [r] rfl HO2.out rfl HX1.out (by rw [txs_length]; simp; omega) ?_; intro v' w4 h1 h2 h3; have HO4 := Lib.hid h1; have HB4 := Lib.hid (h3 _ _ HB2.out (Nat.le_refl _)); clear h1 h2 h3)
        go_roundw
        case rel =>
          refine ⟨k + 1, q, by omega, by show _ = _; rw [ferr_succ s most HF.out, ← HER.out.1]; exact HE0.out, ?_, rfl, by show _ = _; rw [HQ.out]; exact HER.out.2.2, by go_num, HB4⟩
          have := HO4.out
          rw [HER.out.2.1] at this
          exact this
        case measure => simp [intOf]; omega
      · have x1 : ((e : Int) != 0) = true := by rw [bne_iff_ne]; omega
        have x2 : (e != 0) = true := by rw [bne_iff_ne]; exact he
        have HE0 := Lib.hid he
        clear he
        go_wp2_with fail
        refine (rreadtext_at wr (by rw [List.length_drop]; omega) hlo hmo HRT.out).mono ?_; rintro e' w1 ⟨rfl, b1⟩
        have HB1 := Lib.hid (below_moreR HB.out b1 HB.out.size)
        clear b1
        go_wp2_with fail
        go_ret3
        have hr := readRow_err s most hkc HF.out (by rw [← HER.out.1]; exact HE0.out)
        unfold RowRead
        rw [hr, ← HER.out.1]
        exact ⟨_, rfl, .inl ⟨rfl, none, 0, rfl, Nat.zero_le _⟩, HB1.out⟩
    · obtain rfl : k = c := by omega
      have h1 : decide ((k : Int) < (k : Int)) = false := by simp
      go_wp2_with fail
      go_ret3
      unfold RowRead readRow
      rw [if_pos HF.out]
      exact ⟨_, by rw [HP.out]; rfl, HO.out.isStrs, HB.out⟩
/-- the reference's ReadRow. -/
theorem rreadrow_any (s : List UInt8) (hs : s.length < 100000000) (most : Int) (hlo : -9223372036854775808 ≤ most) (hmo : most ≤ 9223372036854775807) (n : Int) (hn : n ≤ 9223372036854775807) (w : World) :
    Calls Try.prog 23 #[.string ⟨s.toArray⟩, .int .i64 n, .int .i64 most] w (RowRead s most n.toNat w) := by
  rcases Int.lt_or_le 0 n with h | h
  · have e : ((n.toNat : Nat) : Int) = n := by omega
    have := rreadrow_some s hs most hlo hmo n.toNat (by omega) w
    rwa [e] at this
  · rw [show n.toNat = 0 by omega]
    exact rreadrow_none s most n h w

set_option maxRecDepth 20000 in
set_option maxHeartbeats 2000000 in
theorem readrow_none (s : List UInt8) (most n : Int) (hn : n ≤ 0) (w : World) :
    Calls Try.prog 22 #[.string ⟨s.toArray⟩, .int .i64 n, .int .i64 most] w (RowRead s most 0 w) := by
  have hd : decide (n ≤ 0) = true := by rw [decide_eq_true_iff]; exact hn
  refine (callsIn_wide (n := 0)).1 (callsIn_of_wp_marks Try.func22 rfl trivial ?_ rfl)
  simp only [Try.ntmps22, List.size_toArray, List.length_cons, List.length_nil, Nat.reduceAdd, Nat.reduceSub, Array.replicate_succ, Array.replicate_zero, List.push_toArray, List.append_toArray, List.nil_append, List.cons_append]
  gi_wp2_with fail
  refine wpIn_scope_straight ?_
  gi_wp2_with fail
  have HB0 : Hid (Below w.heap.size w ((((w.alloc (.cells #[.int .i64 n] 3)).alloc (.cells #[.slice none 0 0] 34)).alloc (.cells #[.int .i64 0] 3)).alloc (.cells #[.int .i64 0] 24))) := ((((Below.refl _ _).alloc (Nat.le_refl _) _).alloc (by simp) _).alloc (by simp; omega) _).alloc (by simp; omega) _
  have H1 : ((((w.alloc (.cells #[.int .i64 n] 3)).alloc (.cells #[.slice none 0 0] 34)).alloc (.cells #[.int .i64 0] 3)).alloc (.cells #[.int .i64 0] 24)).heap[w.heap.size + 1]? = some (.cells #[.slice none 0 0] 34 (0, 0)) := by
    rw [heap_alloc_old _ _ (by simp; try omega), heap_alloc_old _ _ (by simp; try omega)]
    have := heap_alloc_new (w.alloc (.cells #[.int .i64 n] 3)) (.cells #[.slice none 0 0] 34)
    rwa [World.size_alloc] at this
  have H2 : ((((w.alloc (.cells #[.int .i64 n] 3)).alloc (.cells #[.slice none 0 0] 34)).alloc (.cells #[.int .i64 0] 3)).alloc (.cells #[.int .i64 0] 24)).heap[w.heap.size + 1 + 1]? = some (.cells #[.int .i64 0] 3 (0, 0)) := by
    rw [heap_alloc_old _ _ (by simp)]
    have := heap_alloc_new ((w.alloc (.cells #[.int .i64 n] 3)).alloc (.cells #[.slice none 0 0] 34)) (.cells #[.int .i64 0] 3)
    rw [World.size_alloc, World.size_alloc] at this
    exact this
  have H3 : ((((w.alloc (.cells #[.int .i64 n] 3)).alloc (.cells #[.slice none 0 0] 34)).alloc (.cells #[.int .i64 0] 3)).alloc (.cells #[.int .i64 0] 24)).heap[w.heap.size + 1 + 1 + 1]? = some (.cells #[.int .i64 0] 24 (0, 0)) := by
    have := heap_alloc_new (((w.alloc (.cells #[.int .i64 n] 3)).alloc (.cells #[.slice none 0 0] 34)).alloc (.cells #[.int .i64 0] 3)) (.cells #[.int .i64 0] 24)
    rw [World.size_alloc, World.size_alloc, World.size_alloc] at this
    exact this
  generalize ((((w.alloc (.cells #[.int .i64 n] 3)).alloc (.cells #[.slice none 0 0] 34)).alloc (.cells #[.int .i64 0] 3)).alloc (.cells #[.int .i64 0] 24)) = W5 at *
  have m1 : W5.cell? ⟨w.heap.size + 1, 0, none⟩ = some (.slice none 0 0) := by rw [cell_of_row _ _ _ _ _ _ H1]; rfl
  have m2 : W5.cell? ⟨w.heap.size + 1 + 1, 0, none⟩ = some (.int .i64 0) := by rw [cell_of_row _ _ _ _ _ _ H2]; rfl
  have m3 : W5.cell? ⟨w.heap.size + 1 + 1 + 1, 0, none⟩ = some (.int .i64 0) := by rw [cell_of_row _ _ _ _ _ _ H3]; rfl
  refine ⟨.tuple #[.slice none 0 0, .int .i64 0, .int .i64 0], ?_, ?_⟩
  · exact results_cells3R (p := 6) (q := 7) (r := 8) rfl _ _ rfl rfl rfl (loadVar_oneR Try.underlying34 rfl m1) (loadVar_oneR Try.underlying3 rfl m2) (loadVar_oneR Try.underlying24 rfl m3)
  · exact ⟨_, rfl, .inl ⟨rfl, none, 0, rfl, Nat.zero_le _⟩, HB0.out⟩
/-- octet's ReadRow. -/
theorem readrow_all (s : List UInt8) (hs : s.length < 100000000) (most : Int) (hmo : most ≤ 9223372036854775807) (n : Int) (hn : n ≤ 9223372036854775807) (w : World) :
    Calls Try.prog 22 #[.string ⟨s.toArray⟩, .int .i64 n, .int .i64 most] w (RowRead s most n.toNat w) := by
  rcases Int.lt_or_le 0 n with h | h
  · have e : ((n.toNat : Nat) : Int) = n := by omega
    obtain ⟨K, h1, h2, h3⟩ := row_end s most (n.toNat - 1)
    have := readrow_any n.toNat s hs most hmo K h2 (h3.imp id (fun h => ⟨h.1, by omega⟩)) (by omega) (by omega) w
    rwa [e] at this
  · rw [show n.toNat = 0 by omega]
    exact readrow_none s most n h w
end Go.Proofs.Ytegcpedgdldodaa

/- The walk of the reference's ReadNum. -/
import Derived.Test.YtegcpedgdldodaaOctR1
import Derived.Test.YtegcpedgdldodaaOctOrd
import Derived.PlainAid
namespace Go.Proofs.Ytegcpedgdldodaa
set_option linter.unusedVariables false
set_option linter.unusedSimpArgs false
open Go.RowKit Oct
attribute [local go_sem] o_get_mk ByteArray.extract_mk

theorem rreadnum_none (w : World) :
    Calls Try.prog 10 #[.string ⟨#[]⟩] w fun e w' => e = .returned (tup3 (readNum [])) ∧ Below w.heap.size w w' := by
  go_enter Try.func10, Try.ntmps10
  go_wp2
  go_ret3
  exact ⟨rfl, Below.refl _ _⟩

set_option maxHeartbeats 400000 in
theorem rreadnum_short (c : UInt8) (r : List UInt8) (w : World) (hm : r.length < 1000000000) (hc : c.toNat ≤ 247) :
    Calls Try.prog 10 #[.string ⟨(c :: r).toArray⟩] w fun e w' => e = .returned (tup3 (readNum (c :: r))) ∧ Below w.heap.size w w' := by
  have H := Lib.hid (readNum_short c r hc)
  have hc' : (c.toNat : Int) < 248 := by omega
  go_enter Try.func10, Try.ntmps10
  go_wp2
  go_ret3
  exact ⟨by rw [H.out]; rfl, Below.refl _ _⟩

set_option maxRecDepth 20000 in
set_option maxHeartbeats 400000 in
theorem rreadnum_end (c : UInt8) (r : List UInt8) (n : Nat) (w : World) (hm : r.length < 1000000000) (hc : c.toNat = n + 247) (h1 : 1 ≤ n) (h8 : n ≤ 8) (hr : r.length < n) :
    Calls Try.prog 10 #[.string ⟨(c :: r).toArray⟩] w fun e w' => e = .returned (tup3 (readNum (c :: r))) ∧ Below w.heap.size w w' := by
  have H := Lib.hid (readNum_end c r n hc h1 hr)
  go_enter Try.func10, Try.ntmps10
  go_wp2
  go_ret3
  exact ⟨by rw [H.out]; rfl, Below.refl _ _⟩

theorem add_step (x : Nat) (b : UInt8) (hx : x < 256 ^ 7) : IntKind.u64.wrap (IntKind.u64.wrap ((x : Int) * 256) + IntKind.u64.wrap (b.toNat : Int)) = ((x * 256 + b.toNat : Nat) : Int) := by
  have hb := b.toNat_lt
  rw [show (256 : Nat) ^ 7 = 72057594037927936 by decide] at hx
  rw [PlainAid.u64_nonneg (n := (x : Int) * 256) (by omega) (by omega), PlainAid.u64_nonneg (n := (b.toNat : Int)) (by omega) (by omega), PlainAid.u64_nonneg (by omega) (by omega)]
  omega

set_option maxRecDepth 20000 in
set_option maxHeartbeats 1000000 in
theorem rreadnum_long (c : UInt8) (r : List UInt8) (n : Nat) (w : World) (hm : r.length < 1000000000) (hc : c.toNat = n + 247) (h1 : 1 ≤ n) (h8 : n ≤ 8) (hr : n ≤ r.length) :
    Calls Try.prog 10 #[.string ⟨(c :: r).toArray⟩] w fun e w' => e = .returned (tup3 (readNum (c :: r))) ∧ Below w.heap.size w w' := by
  have hd1 : decide ((n : Int) + 247 < 248) = false := by simp; omega
  have hd2 : decide ((r.length : Int) < n) = false := by simp; omega
  have hd3 : decide (r.length < n) = false := by simp; omega
  have hsum : (1 + ((n : Int) + 247) - 247) = n + 1 := by omega
  have H1 := Lib.hid (readNum_form c r n hc h1 hr)
  have H2 := Lib.hid (readNum_ok c r n hc h1 hr)
  have H3 := Lib.hid (readNum_again hc h1 h8 hr)
  have hv : val (r.take n) < 256 ^ 8 := Nat.lt_of_lt_of_le (val_lt _) (Nat.pow_le_pow_right (by omega) (by simp; omega))
  have HN := Lib.hid fun w => rnum_any (val (r.take n)) w hv
  have HS := Lib.hid fun (k : Nat) (hk : k < n) => val_take_succ r k (by omega)
  have HO := Lib.hid fun (k : Nat) (hk : k < n) => add_step (val (r.take k)) (r[k]'(by omega)) (Nat.lt_of_lt_of_le (val_lt _) (Nat.pow_le_pow_right (by omega) (by simp; omega)))
  clear hv
  go_enter Try.func10, Try.ntmps10
  go_wp2
  go_loop [6, 7] (fun v i => ∃ k : Nat, k ≤ n ∧ v = .int .u64 (val (r.take k)) ∧ i = .int .i64 (k + 1 : Nat)) (fun _ i => n + 1 - (intOf i).toNat)
  case atStart => exact ⟨0, by omega, rfl, rfl⟩
  case round =>
    obtain ⟨k, hk, rfl, rfl⟩ := hrel
    by_cases hkn : k < n
    · have hs := Lib.hid (HS.out k hkn)
      have ho := HO.out k hkn
      have hg : (c :: r)[k + 1]? = some (r[k]'(by omega)) := by simp [List.getElem?_eq_getElem (show k < r.length by omega)]
      go_wp2
      go_round
      case rel => exact ⟨k + 1, by omega, by rw [hs.out]; exact congrArg (Value.int .u64) (by omega), by go_num⟩
      case measure => simp [intOf]; omega
    · obtain rfl : n = k := by omega
      clear HO HS
      have hs1 : (List.take (n + 1) (c :: r)) = c :: r.take n := rfl
      by_cases hf : r.headD 0 = 0 ∨ val (r.take n) ≤ 247
      · have HF := Lib.hid (H1.out hf)
        have hq : (num (val (r.take n)) == c :: r.take n) = false := by
          rw [beq_eq_false_iff_ne]; exact fun h => (H3.out.1 h) hf
        have hq2 : (num (val (r.take n)) != c :: r.take n) = true := by
          rw [bne_iff_ne]; exact fun h => (H3.out.1 h) hf
        clear H1 H2 H3 hf
        generalize List.take n r = t at *
        go_wp2
        go_region_with (go_at_call 12; with_reducible refine (HN.out _).mono ?_; rintro e w1 ⟨rfl, b1⟩)
        all_goals
          go_wp2
          go_ret3
          exact ⟨by rw [HF.out]; rfl, (Below.refl _ _).drew.trans b1⟩
      · have HF := Lib.hid (H2.out hf)
        have hq : (num (val (r.take n)) == c :: r.take n) = true := by
          rw [beq_iff_eq]; exact H3.out.2 hf
        have hq2 : (num (val (r.take n)) != c :: r.take n) = false := by
          rw [bne_eq_false_iff_eq]; exact H3.out.2 hf
        clear H1 H2 H3 hf
        go_wp2
        go_region_with (go_at_call 12; with_reducible refine (HN.out _).mono ?_; rintro e w1 ⟨rfl, b1⟩)
        all_goals
          go_wp2
          go_ret3
          exact ⟨by rw [HF.out]; rfl, (Below.refl _ _).drew.trans b1⟩
/-- the reference's ReadNum answers what octet's answers. -/
theorem rreadnum_any (l : List UInt8) (w : World) (hm : l.length < 1000000000) :
    Calls Try.prog 10 #[.string ⟨l.toArray⟩] w fun e w' => e = .returned (tup3 (readNum l)) ∧ Below w.heap.size w w' := by
  cases l with
  | nil => exact rreadnum_none w
  | cons c r =>
    simp only [List.length_cons] at hm
    by_cases hc : c.toNat ≤ 247
    · exact rreadnum_short c r w (by omega) hc
    · have := c.toNat_lt
      obtain ⟨n, hn⟩ : ∃ n, c.toNat = n + 247 := ⟨c.toNat - 247, by omega⟩
      by_cases hr : r.length < n
      · exact rreadnum_end c r n w (by omega) hn (by omega) (by omega) hr
      · exact rreadnum_long c r n w (by omega) hn (by omega) (by omega) (by omega)
theorem rreadnum_at {l : List UInt8} {v n x : Nat} (w : World) (hm : l.length < 1000000000) (h : readNum l = (v, n, x)) :
    Calls Try.prog 10 #[.string ⟨l.toArray⟩] w fun e w' => e = .returned (.tuple #[.int .u64 v, .int .i64 n, .int .i64 x]) ∧ Below w.heap.size w w' := by
  have := rreadnum_any l w hm
  rw [h] at this
  exact this
end Go.Proofs.Ytegcpedgdldodaa

/- The walk of octet.ReadNum. -/
import Derived.Test.YtegcpedgdldodaaOctW1
import Derived.Laws.Closers25b
import Derived.Laws.BitsLemmas
import Derived.PlainAid
namespace Go.Proofs.Ytegcpedgdldodaa
set_option linter.unusedVariables false
set_option linter.unusedSimpArgs false
open Go.RowKit Oct
theorem o_get_mk (l : List UInt8) (i : Nat) (h : i < (ByteArray.mk l.toArray).size) : (ByteArray.mk l.toArray)[i]'h = l[i]'(by simpa [ByteArray.size] using h) := rfl
theorem tail_mk (c : UInt8) (l : List UInt8) : (ByteArray.mk (c :: l).toArray).extract 1 (l.length + 1) = ByteArray.mk l.toArray := extract_mk_tail c l
attribute [local go_sem] o_get_mk tail_mk

theorem or_step (x : Nat) (b : UInt8) (hx : x < 256 ^ 7) : bits .or .u64 (IntKind.u64.wrap ((x : Int) * 256)) (IntKind.u64.wrap (b.toNat : Int)) = ((x * 256 + b.toNat : Nat) : Int) := by
  have hb := b.toNat_lt
  rw [show (256 : Nat) ^ 7 = 72057594037927936 by decide] at hx
  rw [PlainAid.u64_nonneg (by omega) (by omega), PlainAid.u64_nonneg (by omega) (by omega), bits_join .u64 64 (by decide) (fun n h0 h1 => PlainAid.u64_nonneg h0 (by omega)) 8 _ _ (by omega) (by omega) (by omega) (by omega) (by omega) (by omega)]
  omega

/-- the three results of ReadNum. -/
def tup3 (p : Nat × Nat × Nat) : Value := .tuple #[.int .u64 p.1, .int .i64 p.2.1, .int .i64 p.2.2]

theorem readnum_none (w : World) :
    Calls Try.prog 9 #[.string ⟨#[]⟩] w fun e w' => e = .returned (tup3 (readNum [])) ∧ w = w' := by
  go_enter Try.func9, Try.ntmps9
  go_wp2
  go_ret3
  exact ⟨rfl, rfl⟩

set_option maxHeartbeats 400000 in
theorem readnum_short (c : UInt8) (r : List UInt8) (w : World) (hm : r.length < 1000000000) (hc : c.toNat ≤ 247) :
    Calls Try.prog 9 #[.string ⟨(c :: r).toArray⟩] w fun e w' => e = .returned (tup3 (readNum (c :: r))) ∧ w = w' := by
  have H := Lib.hid (readNum_short c r hc)
  go_enter Try.func9, Try.ntmps9
  go_wp2
  go_ret3
  exact ⟨by rw [H.out]; rfl, rfl⟩

set_option maxRecDepth 20000 in
set_option maxHeartbeats 400000 in
theorem readnum_end (c : UInt8) (r : List UInt8) (n : Nat) (w : World) (hm : r.length < 1000000000) (hc : c.toNat = n + 247) (h1 : 1 ≤ n) (h8 : n ≤ 8) (hr : r.length < n) :
    Calls Try.prog 9 #[.string ⟨(c :: r).toArray⟩] w fun e w' => e = .returned (tup3 (readNum (c :: r))) ∧ w = w' := by
  have H := Lib.hid (readNum_end c r n hc h1 hr)
  go_enter Try.func9, Try.ntmps9
  go_wp2
  go_ret3
  exact ⟨by rw [H.out]; rfl, rfl⟩

theorem head_zero {r : List UInt8} (h : 0 < r.length) : r.headD 0 = 0 ↔ (r[0]'h).toNat = 0 := by
  cases r with
  | nil => simp at h
  | cons b r =>
    constructor
    · intro hb; have hb : b = 0 := hb; subst hb; rfl
    · intro hb; exact UInt8.toNat_inj.1 hb
theorem form_a {c : UInt8} {r : List UInt8} {n : Nat} (h : Hid (∀ hf : r.headD 0 = 0 ∨ val (r.take n) ≤ 247, readNum (c :: r) = (0, 0, 7))) (h0 : 0 < r.length) (hb : (r[0]'h0).toNat = 0) : readNum (c :: r) = (0, 0, 7) :=
  h (.inl ((head_zero h0).2 hb))
theorem form_b {c : UInt8} {r : List UInt8} {n : Nat} (h : Hid (∀ hf : r.headD 0 = 0 ∨ val (r.take n) ≤ 247, readNum (c :: r) = (0, 0, 7))) (h0 : 0 < r.length) (hb : (((r[0]'h0).toNat : Int) == 0) = true ∨ (val (r.take n) : Int) ≤ 247) : readNum (c :: r) = (0, 0, 7) := by
  rcases hb with hb | hb
  · exact h (.inl ((head_zero h0).2 (by simpa using hb)))
  · exact h (.inr (by omega))
theorem form_c {c : UInt8} {r : List UInt8} {n : Nat} {x : Nat × Nat × Nat} (h : Hid (∀ hf : ¬ (r.headD 0 = 0 ∨ val (r.take n) ≤ 247), readNum (c :: r) = x)) (h0 : 0 < r.length) (hb : (((r[0]'h0).toNat : Int) == 0) = false ∧ 247 < (val (r.take n) : Int)) : readNum (c :: r) = x := by
  refine h ?_
  rintro (hc | hc)
  · have := (head_zero h0).1 hc
    rw [this] at hb
    simp at hb
  · omega

set_option maxRecDepth 20000 in
set_option maxHeartbeats 400000 in
theorem readnum_long (c : UInt8) (r : List UInt8) (n : Nat) (w : World) (hm : r.length < 1000000000) (hc : c.toNat = n + 247) (h1 : 1 ≤ n) (h8 : n ≤ 8) (hr : n ≤ r.length) :
    Calls Try.prog 9 #[.string ⟨(c :: r).toArray⟩] w fun e w' => e = .returned (tup3 (readNum (c :: r))) ∧ w = w' := by
  have hd1 : decide ((n : Int) + 247 ≤ 247) = false := by simp; omega
  have hd2 : decide ((r.length : Int) < n) = false := by simp; omega
  have hd3 : decide (r.length < n) = false := by simp; omega
  have H1 := Lib.hid (readNum_form c r n hc h1 hr)
  have H2 := Lib.hid (readNum_ok c r n hc h1 hr)
  have HS := Lib.hid fun (k : Nat) (hk : k < n) => val_take_succ r k (by omega)
  have HO := Lib.hid fun (k : Nat) (hk : k < n) => or_step (val (r.take k)) (r[k]'(by omega)) (Nat.lt_of_lt_of_le (val_lt _) (Nat.pow_le_pow_right (by omega) (by simp; omega)))
  go_enter Try.func9, Try.ntmps9
  go_wp2
  go_loop [2, 25] (fun v i => ∃ k : Nat, k ≤ n ∧ v = .int .u64 (val (r.take k)) ∧ i = .int .i64 k) (fun _ i => n - (intOf i).toNat)
  case atStart => exact ⟨0, by omega, rfl, rfl⟩
  case round =>
    obtain ⟨k, hk, rfl, rfl⟩ := hrel
    by_cases hkn : k < n
    · have ho := HO.out k hkn
      have hs := Lib.hid (HS.out k hkn)
      go_wp2
      go_round
      case rel => exact ⟨k + 1, by omega, by rw [hs.out]; exact congrArg (Value.int .u64) (by omega), by go_num⟩
      case measure => simp [intOf]; omega
    · obtain rfl : n = k := by omega
      clear HO HS
      go_wp2
      · go_ret3
        exact ⟨by rw [form_a H1 ‹_› ‹_›]; rfl, rfl⟩
      · go_ret3
        exact ⟨by rw [form_b H1 ‹_› ‹_›]; rfl, rfl⟩
      · go_ret3
        exact ⟨by rw [form_c H2 ‹_› ‹_›]; rfl, rfl⟩

/-- octet.ReadNum answers what the bytes begin with, and leaves the world alone. -/
theorem readnum_any (l : List UInt8) (w : World) (hm : l.length < 1000000000) :
    Calls Try.prog 9 #[.string ⟨l.toArray⟩] w fun e w' => e = .returned (tup3 (readNum l)) ∧ w = w' := by
  cases l with
  | nil => exact readnum_none w
  | cons c r =>
    simp only [List.length_cons] at hm
    by_cases hc : c.toNat ≤ 247
    · exact readnum_short c r w (by omega) hc
    · have := c.toNat_lt
      obtain ⟨n, hn⟩ : ∃ n, c.toNat = n + 247 := ⟨c.toNat - 247, by omega⟩
      by_cases hr : r.length < n
      · exact readnum_end c r n w (by omega) hn (by omega) (by omega) hr
      · exact readnum_long c r n w (by omega) hn (by omega) (by omega) (by omega)
end Go.Proofs.Ytegcpedgdldodaa

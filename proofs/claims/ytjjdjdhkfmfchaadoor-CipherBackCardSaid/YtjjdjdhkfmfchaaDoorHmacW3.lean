/- The walk of hmac.Same. -/
import Derived.Test.YtjjdjdhkfmfchaaDoorHmacW2
import Derived.Deep.QuietTactic
import Derived.BigQuiet
import Derived.WalkSmall
namespace Go.Proofs.YtjjdjdhkfmfchaaDoor
set_option linter.unusedVariables false
set_option linter.unusedSimpArgs false
open Go.RowKit Sha
theorem hs_get_mk (l : List UInt8) (i : Nat) (h : i < (ByteArray.mk l.toArray).size) : (ByteArray.mk l.toArray)[i]'h = l[i]'(by simpa [ByteArray.size] using h) := rfl
attribute [local go_sem] hs_get_mk

/-- all differences, joined. -/
def dif : List UInt8 → List UInt8 → UInt8 → UInt8
  | x :: l, y :: m, d => dif l m (d ||| (x ^^^ y))
  | _, _, d => d
theorem dif_zero : ∀ (l m : List UInt8) (d : UInt8), l.length = m.length → (dif l m d = 0 ↔ d = 0 ∧ l = m)
  | [], [], d, _ => by simp [dif]
  | x :: l, y :: m, d, h => by
    rw [dif, dif_zero l m _ (by simpa using h), UInt8.or_eq_zero_iff, UInt8.xor_eq_zero_iff, List.cons.injEq]
    constructor
    · rintro ⟨⟨h1, h2⟩, h3⟩; exact ⟨h1, h2, h3⟩
    · rintro ⟨h1, h2, h3⟩; exact ⟨⟨h1, h2⟩, h3⟩
theorem dif_next (l m : List UInt8) (k : Nat) (d : UInt8) (h : k < l.length) (h' : k < m.length) : dif (l.drop k) (m.drop k) d = dif (l.drop (k + 1)) (m.drop (k + 1)) (d ||| (l[k] ^^^ m[k])) := by
  rw [List.drop_eq_getElem_cons h, List.drop_eq_getElem_cons h', dif]
theorem by8_zero (d : UInt8) : (by8 d == 0) = (d == 0) := by
  rw [Bool.eq_iff_iff, beq_iff_eq, beq_iff_eq]
  constructor
  · intro h; unfold by8 at h; exact UInt8.toNat_inj.1 (by simpa using h)
  · rintro rfl; rfl

set_option maxRecDepth 20000 in
set_option maxHeartbeats 4000000 in
theorem hsame_any (a b : List UInt8) (ha : a.length < 1000000000) (hb : b.length < 1000000000) (w : World) :
    Calls Tryd.prog 19 #[.string ⟨a.toArray⟩, .string ⟨b.toArray⟩] w fun e w' => e = .returned (.bool (a == b)) ∧ Below w.heap.size w w' := by
  by_cases hl : a.length = b.length
  · have e1 : ((a.length : Int) != (b.length : Int)) = false := by rw [bne_eq_false_iff_eq]; omega
    have e2 : (a.length != b.length) = false := by rw [bne_eq_false_iff_eq]; exact hl
    have HL := Lib.hid hl
    clear hl
    go_enter Tryd.func19, Tryd.ntmps19
    go_wp2_with fail
    go_loopw [5, 14] (fun x i wr => ∃ k : Nat, k ≤ a.length ∧ i = .int .i64 k ∧ ∃ d : UInt8, x = .int .u8 (by8 d) ∧ Hid (dif (a.drop k) (b.drop k) d = dif a b 0) ∧ Hid (Below w.heap.size w wr)) (fun _ i _ => a.length - (intOf i).toNat)
    case atStart => exact ⟨0, by omega, rfl, 0, rfl, rfl, Below.refl _ _⟩
    case round =>
      obtain ⟨k, hk, rfl, d, rfl, HD, HB⟩ := hrel
      by_cases hlt : k < a.length
      · have hkb : k < b.length := by rw [← HL.out]; exact hlt
        have hki : (k : Int) < a.length := by omega
        have hkj : (k : Int) < b.length := by omega
        have HN := Lib.hid (dif_next a b k d hlt hkb)
        have hx := by8_xor a[k] b[k]
        have ho := by8_or d (a[k] ^^^ b[k])
        have hd1 := by8_lo d
        have hd2 := by8_hi d
        go_wp2_with fail
        go_quiet (fail)
        go_wp2_with fail
        go_roundw
        case rel => exact ⟨k + 1, by omega, by go_num, _, congrArg (Value.int .u8) ((congrArg (bits .or .u8 (by8 d)) (by8_xor a[k] b[k])).trans (by8_or _ _)), Lib.hid (by rw [← HN.out]; exact HD.out), below_drewN HB.out _⟩
        case measure => simp [intOf]; omega
      · obtain rfl : k = a.length := by omega
        have hz := by8_zero d
        have HZ := dif_zero a b 0 HL.out
        rw [← HD.out, List.drop_length, List.drop_eq_nil_of_le (by have := HL.out; omega)] at HZ
        have hE : (d == 0) = (a == b) := by
          rw [Bool.eq_iff_iff, beq_iff_eq, beq_iff_eq]
          simpa [dif] using HZ
        rw [hE] at hz
        clear hE HZ
        go_wp2_with fail
        go_ret
        exact ⟨rfl, HB.out⟩
  · have e1 : ((a.length : Int) != (b.length : Int)) = true := by rw [bne_iff_ne]; omega
    have e2 : (a.length != b.length) = true := by rw [bne_iff_ne]; exact hl
    have HF : Hid ((a == b) = false) := by show _ = _; rw [beq_eq_false_iff_ne]; intro h; rw [h] at hl; exact hl rfl
    clear hl
    go_enter Tryd.func19, Tryd.ntmps19
    go_wp2_with fail
    go_ret
    exact ⟨congrArg (fun x => Ending.returned (.bool x)) HF.out.symm, Below.refl _ _⟩
end Go.Proofs.YtjjdjdhkfmfchaaDoor

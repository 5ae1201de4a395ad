/- The walks of the reference's Block, xored, Sum. -/
import Derived.Test.YtjjdjdhkfmfchaaDoorHmacPlain
import Derived.Test.YtjjdjdhkfmfchaaDoorRowB
import Derived.Test.YtjjdjdhkfmfchaaDoorShaR5
namespace Go.Proofs.YtjjdjdhkfmfchaaDoor
set_option linter.unusedVariables false
set_option linter.unusedSimpArgs false
open Go.RowKit Sha
attribute [local go_sem] ByteArray.mk_append_mk

set_option maxRecDepth 20000 in
set_option maxHeartbeats 4000000 in
theorem block_any (k : List UInt8) (hl : k.length < 1000000000) (w : World) :
    Calls Tryd.prog 33 #[.string ⟨k.toArray⟩] w fun e w' => e = .returned (.string ⟨(key64 k).toArray⟩) ∧ Below w.heap.size w w' := by
  by_cases hk : 64 < k.length
  · have HKE : Hid (key64 k = sha k ++ zrow 32) := by show _ = _; unfold key64 pad64 zrow; rw [short64_long hk, sha_length]
    have h32 : ((sha k).length : Int) = 32 := by rw [sha_length]; rfl
    have hmk : ∀ W : World, (Instr.makeSlice 31 (.int .i64 32) (.int .i64 32)).run Tryd.prog W = .ok (.slice (some ⟨W.heap.size, 0, none⟩) 32 32) (W.alloc (.cells (brow (zrow 32)) 5)) := run_make_bytes 32 (by omega)
    have hcv := conv_zeros 32
    have z1 : (sha k).length ≤ 32 := by rw [sha_length]; omega
    have z2 : (zrow 32).length ≤ 32 := by rw [zrow_length]; omega
    have HS := Lib.hid fun W => refSum_any k (by omega) W
    go_enter Tryd.func33, Tryd.ntmps33
    go_wp2_with fail
    refine (HS.out _).mono ?_; rintro e w1 ⟨rfl, b1⟩
    go_wp2_with fail
    go_ret
    exact ⟨congrArg (fun l : List UInt8 => Ending.returned (.string ⟨l.toArray⟩)) HKE.out.symm, b1.alloc b1.size _⟩
  · obtain ⟨n, hn⟩ : ∃ n, n = 64 - k.length := ⟨_, rfl⟩
    have HKE : Hid (key64 k = k ++ zrow n) := by show _ = _; unfold key64 pad64 zrow; rw [short64_short (by omega), hn]
    have hmk := run_make_bytes n (by omega)
    have hcv := conv_zeros n
    have hk1 : (k.length : Int) ≤ 64 := by omega
    have e1 : IntKind.i64.wrap (64 - (k.length : Int)) = (n : Int) := by rw [IntWalk.i64_in _ (by omega)]; omega
    have e2 : (64 : Int) - (k.length : Int) = (n : Int) := by omega
    have z1 : k.length ≤ 64 := by omega
    have z2 : (zrow n).length ≤ 64 := by rw [zrow_length]; omega
    clear hn hk
    go_enter Tryd.func33, Tryd.ntmps33
    go_wp2_with fail
    go_ret
    exact ⟨congrArg (fun l : List UInt8 => Ending.returned (.string ⟨l.toArray⟩)) HKE.out.symm, (Below.refl _ _).alloc (Nat.le_refl _) _⟩

set_option maxRecDepth 20000 in
set_option maxHeartbeats 4000000 in
theorem xored_any (s : List UInt8) (n : UInt8) (hl : s.length < 1000000000) (w : World) :
    Calls Tryd.prog 35 #[.string ⟨s.toArray⟩, .int .u8 (by8 n)] w fun e w' => e = .returned (.string ⟨(xorAll s n).toArray⟩) ∧ Below w.heap.size w w' := by
  have hn1 := by8_lo n
  have hn2 := by8_hi n
  go_enter Tryd.func35, Tryd.ntmps35
  go_wp2_with (refine wpList_bytes_row (o := ⟨some 8, _, _, _, _, _⟩) rfl (.tmp 7) rfl s rfl (by omega) ?_; intro cap W1 hc1 hc2 hW1 hG1)
  have HC1 := Lib.hid hc1
  have HC2 := Lib.hid hc2
  have HR := Lib.hid hW1
  have HB : Hid (Below w.heap.size w W1) := (Below.refl _ _).grown hG1 (Nat.le_refl _) (fun k hk => by cases hk)
  clear hc1 hc2 hW1 hG1
  go_loopw [6] (fun i wr => ∃ k : Nat, k ≤ s.length ∧ i = .int .i64 k ∧ Hid (RowB wr w.heap.size (xorAll (s.take k) n ++ s.drop k)) ∧ Hid (Below w.heap.size w wr)) (fun i _ => s.length - (intOf i).toNat)
  case atStart => exact ⟨0, by omega, rfl, HR, HB⟩
  case round =>
    obtain ⟨k, hk, rfl, HG, HBB⟩ := hrel
    by_cases hlt : k < s.length
    · have hkc : k < (xorAll (s.take k) n ++ s.drop k).length := by rw [List.length_append, xorAll_length, List.length_take, List.length_drop]; omega
      have hc := HG.out.cell k hkc
      rw [xor_at s n k hlt] at hc
      have hf := HG.out.free k hkc
      have hki : (k : Int) < s.length := by omega
      have HX := Lib.hid (xor_next s n k hlt)
      have HKC := Lib.hid hkc
      have hlo := by8_lo s[k]
      have hhi := by8_hi s[k]
      have hxx := by8_xor s[k] n
      clear hkc
      generalize s[k] = x at *
      go_wp2_with fail
      go_roundw
      case rel => exact ⟨k + 1, by omega, by go_num, Lib.hid (by rw [← HX.out]; exact HG.out.set k _ HKC.out), Lib.hid (HBB.out.setCell (by simp) _)⟩
      case measure => simp [intOf]; omega
    · obtain rfl : k = s.length := by omega
      rw [List.take_of_length_le (Nat.le_refl _), List.drop_eq_nil_of_le (Nat.le_refl _), List.append_nil] at HG
      have hcv := HG.out.conv (cap := cap) (xorAll_length s n)
      go_wp2_with fail
      go_ret
      exact ⟨rfl, HBB.out⟩

set_option maxRecDepth 20000 in
/-- the reference's tag of a text under a key. -/
theorem refHmac_any (k s : List UInt8) (hk : k.length < 1000000000) (hl : s.length < 1000000000) (w : World) :
    Calls Tryd.prog 24 #[.string ⟨k.toArray⟩, .string ⟨s.toArray⟩] w fun e w' => e = .returned (.string ⟨(hmac k s).toArray⟩) ∧ Below w.heap.size w w' := by
  have HE : Hid (hmac k s = sha (xorAll (key64 k) 92 ++ sha (xorAll (key64 k) 54 ++ s))) := rfl
  have HL := Lib.hid (key64_length k)
  have HB0 := Lib.hid fun W => block_any k hk W
  generalize key64 k = m at *
  have HX1 := Lib.hid fun W => xored_any m 92 (by rw [HL.out]; omega) W
  have HX2 := Lib.hid fun W => xored_any m 54 (by rw [HL.out]; omega) W
  have L1 : Hid ((xorAll m 92).length = 64) := by show _ = _; rw [xorAll_length]; exact HL.out
  have L2 : Hid ((xorAll m 54).length = 64) := by show _ = _; rw [xorAll_length]; exact HL.out
  have z1 : (xorAll m 92).length ≤ 64 := by rw [L1.out]; omega
  have z2 : (xorAll m 54).length ≤ 64 := by rw [L2.out]; omega
  go_enter Tryd.func24, Tryd.ntmps24
  go_wp2_with fail
  refine (HB0.out _).mono ?_; rintro e w1 ⟨rfl, b1⟩
  have B1 := Lib.hid b1
  clear b1
  go_wp2_with fail
  refine (HX1.out _).mono ?_; rintro e w2 ⟨rfl, b2⟩
  have B2 := Lib.hid (B1.out.trans (b2.mono B1.out.size))
  clear b2
  go_wp2_with fail
  refine (HX2.out _).mono ?_; rintro e w3 ⟨rfl, b3⟩
  have B3 := Lib.hid (B2.out.trans (b3.mono B2.out.size))
  clear b3
  go_wp2_with fail
  refine (refSum_any (xorAll m 54 ++ s) (by rw [List.length_append, L2.out]; omega) _).mono ?_; rintro e w4 ⟨rfl, b4⟩
  have B4 := Lib.hid (B3.out.trans (b4.mono B3.out.size))
  have HS := Lib.hid (sha_length (xorAll m 54 ++ s))
  have z3 : (sha (xorAll m 54 ++ s)).length ≤ 32 := by rw [HS.out]; omega
  clear b4
  go_wp2_with fail
  refine (refSum_any (xorAll m 92 ++ sha (xorAll m 54 ++ s)) (by rw [List.length_append, L1.out, HS.out]; omega) _).mono ?_; rintro e w5 ⟨rfl, b5⟩
  go_wp2_with fail
  go_ret
  exact ⟨congrArg (fun l : List UInt8 => Ending.returned (.string ⟨l.toArray⟩)) HE.out.symm, B4.out.trans (b5.mono B4.out.size)⟩
end Go.Proofs.YtjjdjdhkfmfchaaDoor

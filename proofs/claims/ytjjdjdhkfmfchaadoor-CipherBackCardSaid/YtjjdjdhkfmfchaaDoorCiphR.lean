/- The walks of the reference's Xored, Tag, Seal, Open, Xor. -/
import Derived.Test.YtjjdjdhkfmfchaaDoorCiphPlain
import Derived.Test.YtjjdjdhkfmfchaaDoorHmacR
import Derived.Test.YtjjdjdhkfmfchaaDoorHmacW3
import Derived.Test.YtjjdjdhkfmfchaaDoorShaR4
import Derived.Test.YtjjdjdhkfmfchaaDoorBytesStep
import Derived.Deep.RegionHeld3
import Derived.BigRegion
namespace Go.Proofs.YtjjdjdhkfmfchaaDoor
set_option linter.unusedVariables false
set_option linter.unusedSimpArgs false
open Go.RowKit Sha Ciph
attribute [local go_sem] ByteArray.mk_append_mk ByteArray.extract_mk hs_get_mk

set_option maxRecDepth 20000 in
set_option maxHeartbeats 4000000 in
theorem rxor_any (a b : List UInt8) (ha : a.length < 1000000000) (hb : b.length < 1000000000) (w : World) :
    Calls Tryd.prog 13 #[.string ⟨a.toArray⟩, .string ⟨b.toArray⟩] w fun e w' => e = .returned (.string ⟨(xorP a b).toArray⟩) ∧ Below w.heap.size w w' := by
  go_enter Tryd.func13, Tryd.ntmps13
  go_wp2_with (refine wpList_bytes_row (o := ⟨some 8, _, _, _, _, _⟩) rfl (.tmp 7) rfl a rfl (by omega) ?_; intro cap W1 hc1 hc2 hW1 hG1)
  have HR := Lib.hid hW1
  have HB : Hid (Below w.heap.size w W1) := (Below.refl _ _).grown hG1 (Nat.le_refl _) (fun k hk => by cases hk)
  clear hW1 hG1
  go_loopw [6] (fun i wr => ∃ k : Nat, k ≤ a.length ∧ k ≤ b.length ∧ i = .int .i64 k ∧ Hid (RowB wr w.heap.size (xorK a b k)) ∧ Hid (Below w.heap.size w wr)) (fun i _ => a.length - (intOf i).toNat)
  case atStart => exact ⟨0, by omega, by omega, rfl, HR, HB⟩
  case round =>
    obtain ⟨k, hk, hkb, rfl, HG, HBB⟩ := hrel
    by_cases hlt : k < a.length
    · have hki : (k : Int) < a.length := by omega
      have hkd : decide ((k : Int) < (a.length : Int)) = true := by rw [decide_eq_true_iff]; omega
      by_cases hlb : k < b.length
      · have hkj : (k : Int) < b.length := by omega
        have hkc : k < (xorK a b k).length := by rw [xorK_length]; exact hlt
        have hc := HG.out.cell k hkc
        rw [xorK_at a b k hlt] at hc
        have hf := HG.out.free k hkc
        have HX := Lib.hid (xorK_next a b k hlt hlb)
        have HKC := Lib.hid hkc
        have hlo := by8_lo a[k]
        have hhi := by8_hi a[k]
        have HXX := Lib.hid (by8_xor a[k] b[k])
        have HS : Hid (RowB (wr.setCell ⟨w.heap.size, k, none⟩ (.int .u8 (bits .xor .u8 (by8 a[k]) (b[k].toNat : Int)))).drew w.heap.size (xorK a b (k + 1))) := by
          have := HG.out.set k (a[k] ^^^ b[k]) HKC.out
          rw [HX.out] at this
          rw [show bits .xor .u8 (by8 a[k]) (b[k].toNat : Int) = by8 (a[k] ^^^ b[k]) from HXX.out]
          exact this.kept rfl
        have HB2 := Lib.hid ((HBB.out.setCell (p := ⟨w.heap.size, k, none⟩) (Nat.le_refl _) (.int .u8 (bits .xor .u8 (by8 a[k]) (b[k].toNat : Int)))).drew)
        clear hkc
        go_wp2_with fail
        go_region
        go_wp2_with fail
        go_roundw
        case rel => exact ⟨k + 1, by omega, by omega, by go_num, HS, HB2⟩
        case measure => simp [intOf]; omega
      · have hkj : decide ((k : Int) < (b.length : Int)) = false := by rw [decide_eq_false_iff_not]; omega
        have hkj2 : decide (k < b.length) = false := by rw [decide_eq_false_iff_not]; omega
        have HE := Lib.hid (xorK_end a b k (by omega))
        rw [HE.out] at HG
        have hcv := HG.out.conv (cap := cap) (xorP_length a b)
        go_wp2_with fail
        go_ret
        exact ⟨rfl, HBB.out⟩
    · obtain rfl : k = a.length := by omega
      have hkj : decide ((a.length : Int) < (a.length : Int)) = false := by rw [decide_eq_false_iff_not]; omega
      have HE := Lib.hid (xorK_end a b a.length (by omega))
      rw [HE.out] at HG
      have hcv := HG.out.conv (cap := cap) (xorP_length a b)
      go_wp2_with fail
      go_ret
      exact ⟨rfl, HBB.out⟩

set_option maxRecDepth 20000 in
set_option maxHeartbeats 4000000 in
theorem rtag_any (key s : List UInt8) (hk : key.length < 1000000000) (hs : s.length < 1000000000) (w : World) :
    Calls Tryd.prog 18 #[.string ⟨key.toArray⟩, .string ⟨s.toArray⟩] w fun e w' => e = .returned (.string ⟨(tagOf key s).toArray⟩) ∧ Below w.heap.size w w' := by
  have HE : Hid (tagOf key s = hmac (hmac key ttag) s) := rfl
  have HL : Hid ((hmac key ttag).length = 32) := hmac_length _ _
  have H1 := Lib.hid fun W => refHmac_any key ttag hk (by decide) W
  have H2 := Lib.hid fun W => refHmac_any (hmac key ttag) s (by rw [HL.out]; omega) hs W
  generalize hmac key ttag = m at *
  unfold ttag at H1
  go_enter Tryd.func18, Tryd.ntmps18
  go_wp2_with fail
  refine (H1.out w).mono ?_; rintro e w1 ⟨rfl, b1⟩
  go_wp2_with fail
  refine (H2.out w1).mono ?_; rintro e w2 ⟨rfl, b2⟩
  go_wp2_with fail
  go_ret
  exact ⟨congrArg (fun l : List UInt8 => Ending.returned (.string ⟨l.toArray⟩)) HE.out.symm, below_more b1 b2 b1.size⟩

theorem be4 (q : Nat) : be 4 q = [UInt8.ofNat (q / 16777216), UInt8.ofNat (q / 65536), UInt8.ofNat (q / 256), UInt8.ofNat q] := by
  simp [be]

set_option maxRecDepth 20000 in
set_option maxHeartbeats 4000000 in
theorem rxored_any (key nonce s : List UInt8) (hk : key.length < 1000000000) (hn : nonce.length < 100000000) (hs : s.length < 1000000000) (w : World) :
    Calls Tryd.prog 17 #[.string ⟨key.toArray⟩, .string ⟨nonce.toArray⟩, .string ⟨s.toArray⟩] w fun e w' => e = .returned (.string ⟨(strm (strK key) nonce s).toArray⟩) ∧ Below w.heap.size w w' := by
  have HE : Hid (strK key = hmac key tstream) := rfl
  have HKL : Hid ((strK key).length = 32) := hmac_length _ _
  have H1 := Lib.hid fun W => refHmac_any key tstream hk (by decide) W
  rw [← HE.out] at H1
  unfold tstream at H1
  generalize strK key = kk at *
  have HPT : Hid (∀ q W, Calls Tryd.prog 24 #[.string ⟨kk.toArray⟩, .string ⟨(nonce ++ be 4 q).toArray⟩] W fun e w' => e = .returned (.string ⟨(Ciph.part kk nonce q).toArray⟩) ∧ Below W.heap.size W w') :=
    fun q W => refHmac_any kk (nonce ++ be 4 q) (by rw [HKL.out]; omega) (by rw [List.length_append, be_length]; omega) W
  have HPL := Lib.hid fun q => Ciph.part_length kk nonce q
  go_enter Tryd.func17, Tryd.ntmps17
  go_wp2_with fail
  refine (H1.out w).mono ?_; rintro e w1 ⟨rfl, b1⟩
  have B1 := Lib.hid b1
  clear b1
  go_wp2_with (refine wpList_bytes_row (o := ⟨some 16, _, _, _, _, _⟩) rfl (.tmp 15) rfl s rfl (by omega) ?_; intro cap W1 hc1 hc2 hW1 hG1; have HR := Lib.hid hW1; have HB := Lib.hid (B1.out.grown hG1 B1.out.size (fun k hk => by cases hk)); have HG0 := Lib.hid B1.out.size; clear hW1 hG1)
  generalize w1.heap.size = g at *
  go_loopw [9] (fun i wr => ∃ A q : Nat, Hid (A = 32 * q) ∧ A ≤ s.length + 31 ∧ i = .int .i64 A ∧ Hid (RowB wr g (strm kk nonce (s.take A) ++ s.drop A)) ∧ Hid (Below w.heap.size w wr)) (fun i _ => s.length + 32 - (intOf i).toNat)
  case atStart => exact ⟨0, 0, rfl, by omega, rfl, HR, HB⟩
  case round =>
    obtain ⟨A, q, HAQ, hA, rfl, HG, HBB⟩ := hrel
    by_cases hlt : A < s.length
    · have hq2 : (A : Int) < s.length := by omega
      have hAQ := HAQ.out
      have e1 : (A : Int) / 32 = (q : Int) := by omega
      have e2 : (A : Int).tdiv 32 = (q : Int) := by rw [Int.tdiv_eq_ediv_of_nonneg (by omega)]; exact e1
      have e3 : IntKind.i64.wrap (q : Int) = (q : Int) := by rw [IntWalk.i64_in _ (by omega)]
      have f0 : (q : Int) / 16777216 = by8 (UInt8.ofNat (q / 16777216)) := by rw [← byte_ofN, IntKind.wrap_u8]; omega
      have f1 : (q : Int) / 65536 % 256 = by8 (UInt8.ofNat (q / 65536)) := by rw [← byte_ofN, IntKind.wrap_u8]; omega
      have f2 : (q : Int) / 256 % 256 = by8 (UInt8.ofNat (q / 256)) := by rw [← byte_ofN, IntKind.wrap_u8]; omega
      have f3 : (q : Int) % 256 = by8 (UInt8.ofNat q) := by rw [← byte_ofN, IntKind.wrap_u8]
      have HB4 := Lib.hid (be4 q)
      have HPQ := Lib.hid fun W => HPT.out q W
      have HPL2 := Lib.hid (HPL.out q)
      have HSB : Hid (∀ (j : Nat) (hj : j < 32) (h : j < (Ciph.part kk nonce q).length), sb kk nonce (32 * q + j) = (Ciph.part kk nonce q)[j]'h) := fun j hj h => sb_at kk nonce q j hj
      clear hAQ
      generalize Ciph.part kk nonce q = pt at *
      rw [HB4.out] at HPQ
      generalize UInt8.ofNat (q / 16777216) = c0 at *
      generalize UInt8.ofNat (q / 65536) = c1 at *
      generalize UInt8.ofNat (q / 256) = c2 at *
      generalize UInt8.ofNat q = c3 at *
      have hcv : ∀ W : World, (convert 31 9 (.slice (some ⟨W.heap.size, 0, none⟩) 4 4)).run Tryd.prog (W.alloc (.cells #[.int .u8 ((q : Int) / 16777216), .int .u8 ((q : Int) / 65536 % 256), .int .u8 ((q : Int) / 256 % 256), .int .u8 ((q : Int) % 256)] 5)) = .ok (.string ⟨#[c0, c1, c2, c3]⟩) (W.alloc (.cells #[.int .u8 ((q : Int) / 16777216), .int .u8 ((q : Int) / 65536 % 256), .int .u8 ((q : Int) / 256 % 256), .int .u8 ((q : Int) % 256)] 5)) := fun W => by
        rw [f0, f1, f2, f3]
        exact conv_brow (l := [c0, c1, c2, c3]) rfl (heap_alloc_new W _)
      clear f0 f1 f2 f3
      go_wp2_with fail
      clear hcv e1 e2 e3
      refine (HPQ.out _).mono ?_; rintro e w5 ⟨rfl, b5⟩
      have HG5 := Lib.hid (HG.out.kept ((b5.block _ (by have := HG.out.lt; simp; omega)).trans (heap_alloc_old wr _ HG.out.lt)))
      have B5 := Lib.hid (below_more (HBB.out.alloc HBB.out.size _) b5 (Nat.le_trans HBB.out.size (by simp)))
      clear b5
      go_wp2_with fail
      obtain ⟨wo, rfl⟩ : ∃ wo : World, wo = wr := ⟨_, rfl⟩
      have hp32 : pt.length ≤ 32 := by rw [HPL2.out]; omega
      go_loopw [12] (fun i wr2 => ∃ j m : Nat, Hid (m = A + j) ∧ j ≤ 32 ∧ m ≤ s.length ∧ i = .int .i64 j ∧ Hid (RowB wr2 g (strm kk nonce (s.take m) ++ s.drop m)) ∧ Hid (Below w.heap.size w wr2)) (fun i _ => 32 - (intOf i).toNat)
      case atStart => exact ⟨0, A, rfl, by omega, by omega, rfl, HG5, B5⟩
      case round =>
        obtain ⟨j, m, HM, hj, hm, rfl, HGJ, HBJ⟩ := hrel
        have hM := HM.out
        have s1 : IntKind.i64.wrap ((A : Int) + (j : Int)) = (m : Int) := by rw [IntWalk.i64_in _ (by omega)]; omega
        have s2 : (A : Int) + (j : Int) = (m : Int) := by omega
        by_cases hj32 : j < 32
        · have hj1 : (j : Int) < 32 := by omega
          have hj2 : decide ((j : Int) < 32) = true := by rw [decide_eq_true_iff]; omega
          by_cases hml : m < s.length
          · have hm1 : (m : Int) < s.length := by omega
            have hkc : m < (strm kk nonce (s.take m) ++ s.drop m).length := by rw [List.length_append, strm_length, List.length_take, List.length_drop]; omega
            have hc := HGJ.out.cell m hkc
            rw [strm_at kk nonce s m hml] at hc
            have hf := HGJ.out.free m hkc
            have hjp : j < pt.length := by rw [HPL2.out]; exact hj32
            have hjpi : (j : Int) < pt.length := by omega
            have HX := Lib.hid (strm_set kk nonce s m hml)
            have HSJ : Hid (sb kk nonce m = pt[j]) := by show _ = _; rw [hM, HAQ.out]; exact HSB.out j hj32 hjp
            have hlo := by8_lo s[m]
            have hhi := by8_hi s[m]
            have HXX := Lib.hid (by8_xor s[m] pt[j])
            have HS : Hid (RowB (wr.setCell ⟨g, m, none⟩ (.int .u8 (bits .xor .u8 (by8 s[m]) (pt[j].toNat : Int)))).drew g (strm kk nonce (s.take (m + 1)) ++ s.drop (m + 1))) := by
              have := HGJ.out.set m (s[m] ^^^ pt[j]) hkc
              rw [← HSJ.out, HX.out] at this
              rw [show bits .xor .u8 (by8 s[m]) (pt[j].toNat : Int) = by8 (s[m] ^^^ pt[j]) from HXX.out, ← HSJ.out]
              exact this.kept rfl
            have HB2 := Lib.hid ((HBJ.out.setCell (p := ⟨g, m, none⟩) HG0.out (.int .u8 (bits .xor .u8 (by8 s[m]) (pt[j].toNat : Int)))).drew)
            have HM2 : Hid (m + 1 = A + (j + 1)) := by show _ = _; omega
            clear hkc hM
            go_wp2_with fail
            go_region
            go_wp2_with fail
            go_roundw
            case rel => exact ⟨j + 1, m + 1, HM2, by omega, by omega, by go_num, HS, HB2⟩
            case measure => simp [intOf]; omega
          · have hm1 : decide ((m : Int) < (s.length : Int)) = false := by rw [decide_eq_false_iff_not]; omega
            have hm2 : decide (m < s.length) = false := by rw [decide_eq_false_iff_not]; omega
            have HE : Hid (RowB wr g (strm kk nonce (s.take (A + 32)) ++ s.drop (A + 32))) := by
              have h1 := HGJ.out
              rw [List.take_of_length_le (by omega), List.drop_eq_nil_of_le (by omega)] at h1
              rw [List.take_of_length_le (by omega), List.drop_eq_nil_of_le (by omega)]
              exact h1
            have HAQ2 : Hid (A + 32 = 32 * (q + 1)) := by have := HAQ.out; show _ = _; omega
            clear hM
            go_wp2_with fail
            go_roundw
            case rel => exact ⟨A + 32, q + 1, HAQ2, by omega, by go_num, HE, HBJ⟩
            case measure => simp [intOf]; omega
        · obtain rfl : j = 32 := by omega
          have hj2 : decide (((32 : Nat) : Int) < 32) = false := by decide
          have HE : Hid (RowB wr g (strm kk nonce (s.take (A + 32)) ++ s.drop (A + 32))) := by rw [← hM]; exact HGJ
          have HAQ2 : Hid (A + 32 = 32 * (q + 1)) := by have := HAQ.out; show _ = _; omega
          clear hM
          go_wp2_with fail
          go_roundw
          case rel => exact ⟨A + 32, q + 1, HAQ2, by omega, by go_num, HE, HBJ⟩
          case measure => simp [intOf]; omega
    · have hq2 : decide ((A : Int) < (s.length : Int)) = false := by rw [decide_eq_false_iff_not]; omega
      rw [List.take_of_length_le (by omega), List.drop_eq_nil_of_le (by omega), List.append_nil] at HG
      have hcv := HG.out.conv (cap := cap) (strm_length kk nonce s)
      go_wp2_with fail
      go_ret
      exact ⟨rfl, HBB.out⟩
end Go.Proofs.YtjjdjdhkfmfchaaDoor

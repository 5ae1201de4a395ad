/- The walk of the law CipherBack. -/
import Derived.Test.YtjjdjdhkfmfchaaDoorCiphAlive
import Derived.Deep.RegionHeld3
import Derived.OpenShut
namespace Go.Proofs.YtjjdjdhkfmfchaaDoor
set_option linter.unusedVariables false
set_option linter.unusedSimpArgs false
open Go.RowKit Sha Ciph
attribute [local go_sem] ByteArray.mk_append_mk ByteArray.extract_mk

/-- what is opened, if the tag was changed. -/
theorem open_spoilt (key nonce s t : List UInt8) (hn : nonce.length = 12) (hs : s.length ≤ 65536) (ht : t.length = 32) :
    openR key (hidden key nonce s ++ t) = if t = tagOf key (hidden key nonce s) then (s, 0) else ([], 40) := by
  have hh := hidden_length key nonce s
  have hl : (hidden key nonce s ++ t).length = nonce.length + s.length + 32 := by rw [List.length_append, hh, ht]
  by_cases h : t = tagOf key (hidden key nonce s)
  · rw [if_pos h, h]
    exact open_sealed key nonce s hn hs
  · have h1 : (hidden key nonce s ++ t).take ((hidden key nonce s ++ t).length - 32) = hidden key nonce s := by
      rw [hl, show nonce.length + s.length + 32 - 32 = (hidden key nonce s).length by rw [hh]; omega]
      exact List.take_left
    have h2 : (hidden key nonce s ++ t).drop ((hidden key nonce s ++ t).length - 32) = t := by
      rw [hl, show nonce.length + s.length + 32 - 32 = (hidden key nonce s).length by rw [hh]; omega]
      exact List.drop_left
    unfold openR
    rw [if_neg (by omega), if_neg (by omega), h1, h2, if_pos (fun e => h e.symm), if_neg h]
theorem open_short (key x : List UInt8) (h : x.length < 44) : openR key x = ([], 6) := by unfold openR; rw [if_pos h]

attribute [local irreducible] Sha.hmac Sha.sha Ciph.sealR Ciph.openR
set_option maxRecDepth 20000 in
set_option maxHeartbeats 4000000 in
theorem law_CipherBack (key : List UInt8) (hkey : key.length ≤ maxLen) (nonce : List UInt8) (hnonce : nonce.length ≤ maxLen) (s : List UInt8) (hs : s.length ≤ maxLen) (ch : List UInt8) (hch : ch.length = 32) (cut : Int) (hcut : (Lit.int .u8 cut).wf = true) (w : World) (hk : KLaid w) :
    Calls Tryd.prog 5 #[.string ⟨key.toArray⟩, .string ⟨nonce.toArray⟩, .string ⟨s.toArray⟩, .agg (brow ch), .int .u8 cut] w fun e w' => e = .returned (.bool true) ∧ Below w.heap.size w w' := by
  have HK := Lib.hid hk
  obtain ⟨v1, v2⟩ := bounds_u8 hcut
  have HCH := Lib.hid hch
  clear hk hkey hnonce hs hcut hch
  have HB0 : Hid (Below w.heap.size w (w.alloc (.cells (brow ch) 29))) := (Below.refl _ _).alloc (Nat.le_refl _) _
  have HR0 := Lib.hid (heap_alloc_new w (.cells (brow ch) 29))
  cases hB : longB key nonce s
  · obtain ⟨m1, m2, m3⟩ := longB_false hB
    by_cases hn : nonce.length = 12
    · obtain ⟨H, hH⟩ : ∃ H, H = hidden key nonce s := ⟨_, rfl⟩
      obtain ⟨T, hT⟩ : ∃ T, T = tagOf key H := ⟨_, rfl⟩
      obtain ⟨T2, hT2⟩ : ∃ T2, T2 = xorP T ch := ⟨_, rfl⟩
      obtain ⟨X, hX⟩ : ∃ X, X = H ++ T := ⟨_, rfl⟩
      have lT : T.length = 32 := by rw [hT]; exact tagOf_length _ _
      have lT2 : T2.length = 32 := by rw [hT2, xorP_length]; exact lT
      have lH : H.length = 12 + s.length := by rw [hH, hidden_length, hn]
      have lX : X.length = s.length + 44 := by rw [hX, List.length_append]; omega
      obtain ⟨m, hm⟩ : ∃ m, m = H.length := ⟨_, rfl⟩
      have HXS : Hid (sealR key nonce s = (X, 0)) := by show _ = _; rw [hX, hT, hH]; unfold sealR; rw [if_neg (by omega), if_neg (by omega)]; rfl
      have HOX : Hid (openR key X = (s, 0)) := by show _ = _; rw [hX, hT, hH]; exact open_sealed key nonce s hn (by omega)
      have HOS : Hid (openR key (H ++ T2) = if T2 = T then (s, 0) else ([], 40)) := by
        show _ = _
        have h := open_spoilt key nonce s T2 hn (by omega) lT2
        rw [← hH, ← hT] at h
        exact h
      have HEX : Hid (H ++ T2 = X ↔ T2 = T) := by
        show _ ↔ _
        rw [hX]
        exact List.append_right_inj H
      have HXC : Hid (∀ W, Calls Tryd.prog 13 #[.string ⟨T.toArray⟩, .string ⟨ch.toArray⟩] W fun e w' => e = .returned (.string ⟨T2.toArray⟩) ∧ Below W.heap.size W w') :=
        fun W => by rw [hT2]; exact rxor_any T ch (by omega) (by rw [HCH.out]; omega) W
      have hd1 : List.take m X = H := by rw [hX, hm]; exact List.take_left
      have hd2 : List.drop m X = T := by rw [hX, hm]; exact List.drop_left
      have hd3 : List.take (X.length - m) T = T := List.take_of_length_le (by omega)
      have hd4 : List.take 12 X = nonce := by
        rw [hX, hH]
        unfold hidden
        rw [List.append_assoc, ← hn]
        exact List.take_left
      have hnn : (nonce != nonce) = false := by rw [bne_eq_false_iff_eq]
      have hss : (s != s) = false := by rw [bne_eq_false_iff_eq]
      have e1 : IntKind.i64.wrap ((X.length : Int) - 32) = (m : Int) := by rw [IntWalk.i64_in _ (by omega)]; omega
      have e1' : (X.length : Int) - 32 = (m : Int) := by omega
      have e1'' : IntKind.i64.wrap (m : Int) = (m : Int) := by rw [IntWalk.i64_in _ (by omega)]
      have e4 : IntKind.i64.wrap ((s.length : Int) + 44) = (X.length : Int) := by rw [IntWalk.i64_in _ (by omega)]; omega
      have e4' : (s.length : Int) + 44 = (X.length : Int) := by omega
      have e4'' : IntKind.i64.wrap (X.length : Int) = (X.length : Int) := by rw [IntWalk.i64_in _ (by omega)]
      have k1 : m ≤ X.length := by omega
      have k2 : (m : Int) ≤ X.length := by omega
      have k3 : (0 : Int) ≤ m := by omega
      have k4 : (12 : Int) ≤ X.length := by omega
      have k5 : 12 ≤ X.length := by omega
      have k6 : (0 : Int) ≤ 12 := by omega
      have z1 : H.length ≤ 10000 := by omega
      have z2 : T2.length ≤ 32 := by omega
      have z5 : H.length + T2.length ≤ 9223372036854775807 := by omega
      have z6 : ¬ 9223372036854775807 < H.length + T2.length := by omega
      have HLX : Hid (X.length < 1000000000 ∧ (H ++ T2).length < 1000000000) := ⟨by omega, by rw [List.length_append]; omega⟩
      obtain ⟨c, hc⟩ : ∃ c : Nat, (c : Int) = cut % 44 := ⟨(cut % 44).toNat, by have := Int.emod_nonneg cut (show (44 : Int) ≠ 0 by omega); omega⟩
      have hlt := Int.emod_lt_of_pos cut (show (0 : Int) < 44 by omega)
      have c1 : cut.tmod 44 = (c : Int) := by rw [Int.tmod_eq_emod_of_nonneg (by omega)]; exact hc.symm
      have c2 : cut % 44 = (c : Int) := hc.symm
      have c3 : IntKind.i64.wrap cut = cut := by rw [IntWalk.i64_in _ (by omega)]
      have c4 : IntKind.i64.wrap (c : Int) = (c : Int) := by rw [IntWalk.i64_in _ (by omega)]
      have c5 : c ≤ X.length := by omega
      have c6 : (c : Int) ≤ X.length := by omega
      have HOC : Hid (openR key (X.take c) = ([], 6)) := open_short key _ (by rw [List.length_take]; omega)
      have HLC : Hid ((X.take c).length < 1000000000) := by show _ < _; rw [List.length_take]; omega
      have hco : ∀ w' : World, w'.heap[w.heap.size]? = some (.cells (brow ch) 29 (0, 0)) → (convert 31 9 (.slice (some ⟨w.heap.size, 0, none⟩) 32 32)).run Tryd.prog w' = .ok (.string ⟨ch.toArray⟩) w' := fun w' h => conv_brow HCH.out h
      have HCO := Lib.hid hco
      clear hco hH hT hT2 hX hn hc hlt lT lT2 lH lX hm
      go_enter Tryd.func5, Tryd.ntmps5
      go_wp2_with (refine wpList_box_row (o := ⟨some 8, _, _, _, _, _⟩) rfl 29 (.tmp 3) rfl (brow ch) rfl ?_)
      generalize w.alloc (.cells (brow ch) 29) = w0 at *
      refine (long_any key nonce s w0).mono ?_; rintro e w1 ⟨rfl, rfl⟩
      rw [hB]
      go_wp2_with fail
      refine (cseal_any key nonce s (by omega) (by omega) (by omega) w1 (HK.out.below HB0.out)).mono ?_; rintro e w2 ⟨rfl, b2⟩
      rw [HXS.out]
      unfold tup2
      have B2 := Lib.hid (below_more HB0.out b2 HB0.out.size)
      have R2 := Lib.hid ((b2.block _ (lt_of_block HR0.out)).trans HR0.out)
      clear b2
      go_wp2_with fail
      refine (copen_any key X (by omega) HLX.out.1 w2 (HK.out.below B2.out)).mono ?_; rintro e w3 ⟨rfl, b3⟩
      rw [HOX.out]
      unfold tup2
      have B3 := Lib.hid (below_more B2.out b3 B2.out.size)
      have R3 := Lib.hid ((b3.block _ (lt_of_block R2.out)).trans R2.out)
      clear b3
      go_wp2_with fail
      have hcv := HCO.out w3.drew R3.out
      have B3D := Lib.hid B3.out.drew
      go_region_held3 (fun w' => (convert 31 9 (.slice (some ⟨w.heap.size, 0, none⟩) 32 32)).run Tryd.prog w' = .ok (.string ⟨ch.toArray⟩) w') (first | assumption) (first
        | (go_at_call 13; (with_reducible refine (HXC.out _).mono ?_); rintro e w5 ⟨rfl, b5⟩; have hcv5 := HCO.out w5 ((b5.block _ (lt_of_block R3.out)).trans R3.out); have B5 := Lib.hid (below_more B3D.out b5 B3D.out.size); clear b5)
        | fail)
      all_goals
        go_wp2_with fail
        with_reducible refine (copen_any key (H ++ T2) (by omega) HLX.out.2 w5 (HK.out.below B5.out)).mono ?_; rintro e w6 ⟨rfl, b6⟩
        have B6 := Lib.hid (below_more B5.out b6 B5.out.size)
        clear b6
        obtain ⟨sO, eO, bO, hOp, hEq, hTst⟩ : ∃ (sO : List UInt8) (eO : Nat) (bO : Bool), openR key (H ++ T2) = (sO, eO) ∧ (H ++ T2 == X) = bO ∧ ((bO = true ∧ sO = s ∧ eO = 0) ∨ (bO = false ∧ sO = [] ∧ eO = 40)) := by
          by_cases ht : T2 = T
          · exact ⟨s, 0, true, by rw [HOS.out, if_pos ht], by rw [beq_iff_eq]; exact HEX.out.2 ht, .inl ⟨rfl, rfl, rfl⟩⟩
          · exact ⟨[], 40, false, by rw [HOS.out, if_neg ht], by rw [beq_eq_false_iff_ne]; exact fun h => ht (HEX.out.1 h), .inr ⟨rfl, rfl, rfl⟩⟩
        rw [hOp]
        clear hOp HOS HEX
        unfold tup2
        rcases hTst with ⟨rfl, rfl, rfl⟩ | ⟨rfl, rfl, rfl⟩
        all_goals
          go_wp2_with fail
          with_reducible refine (copen_any key (X.take c) (by omega) HLC.out w6 (HK.out.below B6.out)).mono ?_; rintro e w7 ⟨rfl, b7⟩
          rw [HOC.out]
          unfold tup2
          have B7 := Lib.hid (below_more B6.out b7 B6.out.size)
          clear b7
          go_wp2_with fail
          refine (alive_any w7 (HK.out.below B7.out)).mono ?_; rintro e w8 ⟨rfl, b8⟩
          have B8 := Lib.hid (below_more B7.out b8 B7.out.size)
          clear b8
          go_wp2_with fail
          go_ret
          exact ⟨rfl, B8.out⟩
    · have HX : Hid (sealR key nonce s = ([], 2)) := by show _ = _; unfold sealR; rw [if_pos hn]
      have n1 : ((nonce.length : Int) != 12) = true := by rw [bne_iff_ne]; omega
      have n2 : (nonce.length != 12) = true := by rw [bne_iff_ne]; exact hn
      clear hn
      go_enter Tryd.func5, Tryd.ntmps5
      go_wp2_with (refine wpList_box_row (o := ⟨some 8, _, _, _, _, _⟩) rfl 29 (.tmp 3) rfl (brow ch) rfl ?_)
      generalize w.alloc (.cells (brow ch) 29) = w0 at *
      refine (long_any key nonce s w0).mono ?_; rintro e w1 ⟨rfl, rfl⟩
      rw [hB]
      go_wp2_with fail
      refine (cseal_any key nonce s (by omega) (by omega) (by omega) w1 (HK.out.below HB0.out)).mono ?_; rintro e w2 ⟨rfl, b2⟩
      rw [HX.out]
      unfold tup2
      have B2 := Lib.hid (below_more HB0.out b2 HB0.out.size)
      clear b2
      go_wp2_with fail
      refine (alive_any w2 (HK.out.below B2.out)).mono ?_; rintro e w3 ⟨rfl, b3⟩
      have B3 := Lib.hid (below_more B2.out b3 B2.out.size)
      clear b3
      go_wp2_with fail
      go_ret
      exact ⟨rfl, B3.out⟩
  · go_enter Tryd.func5, Tryd.ntmps5
    go_wp2_with (refine wpList_box_row (o := ⟨some 8, _, _, _, _, _⟩) rfl 29 (.tmp 3) rfl (brow ch) rfl ?_)
    generalize w.alloc (.cells (brow ch) 29) = w0 at *
    refine (long_any key nonce s w0).mono ?_; rintro e w1 ⟨rfl, rfl⟩
    rw [hB]
    go_wp2_with fail
    refine (alive_any w1 (HK.out.below HB0.out)).mono ?_; rintro e w2 ⟨rfl, b2⟩
    go_wp2_with fail
    go_ret
    exact ⟨rfl, below_more HB0.out b2 HB0.out.size⟩
end Go.Proofs.YtjjdjdhkfmfchaaDoor

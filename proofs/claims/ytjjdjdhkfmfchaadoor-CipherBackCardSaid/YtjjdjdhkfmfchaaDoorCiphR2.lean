/- The walks of the reference's Seal, Open. -/
import Derived.Test.YtjjdjdhkfmfchaaDoorCiphR
namespace Go.Proofs.YtjjdjdhkfmfchaaDoor
set_option linter.unusedVariables false
set_option linter.unusedSimpArgs false
open Go.RowKit Sha Ciph
attribute [local go_sem] ByteArray.mk_append_mk ByteArray.extract_mk

/-- a text and an error. -/
def tup2 (p : List UInt8 × Nat) : Value := .tuple #[.string ⟨p.1.toArray⟩, .int .i64 p.2]

set_option maxRecDepth 20000 in
set_option maxHeartbeats 4000000 in
theorem rseal_any (key nonce s : List UInt8) (hk : key.length < 1000000000) (hn : nonce.length < 1000000000) (hs : s.length < 1000000000) (w : World) :
    Calls Tryd.prog 10 #[.string ⟨key.toArray⟩, .string ⟨nonce.toArray⟩, .string ⟨s.toArray⟩] w fun e w' => e = .returned (tup2 (sealR key nonce s)) ∧ Below w.heap.size w w' := by
  by_cases h12 : nonce.length = 12
  · have n1 : ((nonce.length : Int) != 12) = false := by rw [bne_eq_false_iff_eq]; omega
    have n2 : (nonce.length != 12) = false := by rw [bne_eq_false_iff_eq]; exact h12
    by_cases hl : 65536 < s.length
    · have hl1 : (65536 : Int) < s.length := by omega
      have HF : Hid (sealR key nonce s = ([], 5)) := by show _ = _; unfold sealR; rw [if_neg (by omega), if_pos hl]
      clear h12 hl
      go_enter Tryd.func10, Tryd.ntmps10
      go_wp2_with fail
      go_ret2
      exact ⟨congrArg (fun p => Ending.returned (tup2 p)) HF.out.symm, Below.refl _ _⟩
    · have hl1 : (s.length : Int) ≤ 65536 := by omega
      have HF : Hid (sealR key nonce s = (hidden key nonce s ++ tagOf key (hidden key nonce s), 0)) := by show _ = _; unfold sealR; rw [if_neg (by omega), if_neg hl]; rfl
      have HX := Lib.hid fun W => rxored_any key nonce s hk (by omega) hs W
      have HHL := Lib.hid (hidden_length key nonce s)
      have HT := Lib.hid fun W => rtag_any key (hidden key nonce s) hk (by rw [HHL.out]; omega) W
      have HH : Hid (hidden key nonce s = nonce ++ strm (strK key) nonce s) := rfl
      have z1 : (strm (strK key) nonce s).length ≤ 65536 := by rw [strm_length]; omega
      have z2 : (tagOf key (hidden key nonce s)).length ≤ 32 := by rw [tagOf_length]; omega
      have z3 : nonce.length ≤ 12 := by omega
      have z4 : (hidden key nonce s).length ≤ 100000 := by rw [HHL.out]; omega
      generalize strm (strK key) nonce s = y at *
      generalize hidden key nonce s = h at *
      generalize tagOf key h = t at *
      clear h12 hl
      go_enter Tryd.func10, Tryd.ntmps10
      go_wp2_with fail
      refine (HX.out w).mono ?_; rintro e w1 ⟨rfl, b1⟩
      have B1 := Lib.hid b1
      clear b1
      go_wp2_with fail
      rw [← HH.out]
      refine (HT.out w1).mono ?_; rintro e w2 ⟨rfl, b2⟩
      go_wp2_with fail
      go_ret2
      exact ⟨congrArg (fun p => Ending.returned (tup2 p)) HF.out.symm, below_more B1.out b2 B1.out.size⟩
  · have n1 : ((nonce.length : Int) != 12) = true := by rw [bne_iff_ne]; omega
    have n2 : (nonce.length != 12) = true := by rw [bne_iff_ne]; exact h12
    have HF : Hid (sealR key nonce s = ([], 2)) := by show _ = _; unfold sealR; rw [if_pos h12]
    clear h12
    go_enter Tryd.func10, Tryd.ntmps10
    go_wp2_with fail
    go_ret2
    exact ⟨congrArg (fun p => Ending.returned (tup2 p)) HF.out.symm, Below.refl _ _⟩

set_option maxRecDepth 20000 in
set_option maxHeartbeats 4000000 in
theorem ropen_any (key x : List UInt8) (hk : key.length < 1000000000) (hx : x.length < 1000000000) (w : World) :
    Calls Tryd.prog 12 #[.string ⟨key.toArray⟩, .string ⟨x.toArray⟩] w fun e w' => e = .returned (tup2 (openR key x)) ∧ Below w.heap.size w w' := by
  by_cases h44 : x.length < 44
  · have n1 : (x.length : Int) < 44 := by omega
    have HF : Hid (openR key x = ([], 6)) := by show _ = _; unfold openR; rw [if_pos h44]
    clear h44
    go_enter Tryd.func12, Tryd.ntmps12
    go_wp2_with fail
    go_ret2
    exact ⟨congrArg (fun p => Ending.returned (tup2 p)) HF.out.symm, Below.refl _ _⟩
  · have n1 : (44 : Int) ≤ x.length := by omega
    by_cases hb : 65580 < x.length
    · have n2 : (65580 : Int) < x.length := by omega
      have HF : Hid (openR key x = ([], 5)) := by show _ = _; unfold openR; rw [if_neg h44, if_pos hb]
      clear h44 hb
      go_enter Tryd.func12, Tryd.ntmps12
      go_wp2_with fail
      go_ret2
      exact ⟨congrArg (fun p => Ending.returned (tup2 p)) HF.out.symm, Below.refl _ _⟩
    · have n2 : (x.length : Int) ≤ 65580 := by omega
      obtain ⟨n, hn⟩ : ∃ n, n = x.length - 32 := ⟨_, rfl⟩
      have e1 : (x.length : Int) - 32 = (n : Int) := by omega
      have e2 : IntKind.i64.wrap ((x.length : Int) - 32) = (n : Int) := by rw [IntWalk.i64_in _ (by omega)]; exact e1
      have k1 : n ≤ x.length := by omega
      have k2 : (n : Int) ≤ x.length := by omega
      have k3 : (12 : Int) ≤ n := by omega
      have k4 : 12 ≤ n := by omega
      have k5 : (12 : Int) ≤ x.length := by omega
      have k6 : 12 ≤ x.length := by omega
      have k7 : (0 : Int) ≤ 12 := by omega
      have hd1 : List.take (x.length - n) (List.drop n x) = List.drop n x := List.take_of_length_le (by rw [List.length_drop]; omega)
      have hd2 : List.take (n - 12) (List.drop 12 x) = (x.take n).drop 12 := by rw [List.drop_take]
      have HTG := Lib.hid fun W => rtag_any key (x.take n) hk (by rw [List.length_take]; omega) W
      have HXR := Lib.hid fun W => rxored_any key (x.take 12) ((x.take n).drop 12) hk (by rw [List.length_take]; omega) (by rw [List.length_drop, List.length_take]; omega) W
      by_cases ht : tagOf key (x.take n) = x.drop n
      · have t1 : (tagOf key (x.take n) == x.drop n) = true := by rw [beq_iff_eq]; exact ht
        have HF : Hid (openR key x = (strm (strK key) (x.take 12) ((x.take n).drop 12), 0)) := by
          show _ = _; unfold openR; rw [if_neg h44, if_neg hb, ← hn, if_neg (by simpa using ht)]
        clear h44 hb ht hn
        go_enter Tryd.func12, Tryd.ntmps12
        go_wp2_with fail
        go_region_held3 (fun _ => True) (first | trivial) (first | (go_at_call 18; (with_reducible refine (HTG.out _).mono ?_); rintro e w5 ⟨rfl, b5⟩; have B5 := Lib.hid (below_more ((Below.refl w.heap.size w).drew) b5 (Nat.le_refl _)); clear b5) | fail)
        all_goals
          go_wp2_with fail
          go_region_held3 (fun _ => True) (first | trivial) (first | (go_at_call 17; (with_reducible refine (HXR.out _).mono ?_); rintro e w6 ⟨rfl, b6⟩; have B6 := Lib.hid (below_more (B5.out.drew) b6 (Nat.le_trans B5.out.size (Nat.le_refl _))); clear b6) | fail)
        all_goals
          go_wp2_with fail
          go_ret2
          exact ⟨congrArg (fun p => Ending.returned (tup2 p)) HF.out.symm, B6.out⟩
      · have t1 : (tagOf key (x.take n) == x.drop n) = false := by rw [beq_eq_false_iff_ne]; exact ht
        have HF : Hid (openR key x = ([], 40)) := by
          show _ = _; unfold openR; rw [if_neg h44, if_neg hb, ← hn, if_pos (by simpa using ht)]
        clear h44 hb ht hn
        go_enter Tryd.func12, Tryd.ntmps12
        go_wp2_with fail
        go_region_held3 (fun _ => True) (first | trivial) (first | (go_at_call 18; (with_reducible refine (HTG.out _).mono ?_); rintro e w5 ⟨rfl, b5⟩; have B5 := Lib.hid (below_more ((Below.refl w.heap.size w).drew) b5 (Nat.le_refl _)); clear b5) | fail)
        all_goals
          go_wp2_with fail
          go_ret2
          exact ⟨congrArg (fun p => Ending.returned (tup2 p)) HF.out.symm, B5.out⟩
end Go.Proofs.YtjjdjdhkfmfchaaDoor

/- The reference's padded text. -/
import Derived.Test.YtjjdjdhkfmfchaaDoorShaW5
namespace Go.Proofs.YtjjdjdhkfmfchaaDoor
set_option linter.unusedVariables false
set_option linter.unusedSimpArgs false
open Go.RowKit Sha

theorem OwnB.form {w : World} {base : Nat} {v : Value} {l : List UInt8} (h : OwnB w base v l) : ∃ p c, v = .slice p l.length c := by
  rcases h.2 with ⟨rfl, h0⟩ | ⟨g, cap, cur, fz, rfl, _⟩
  · exact ⟨none, 0, by rw [h0]⟩
  · exact ⟨_, _, rfl⟩

/-- how long a slice is. -/
def slLen : Value → Nat
  | .slice _ n _ => n
  | _ => 0

/-- the cell of a row of one byte that was just laid. -/
theorem one_cell (w : World) (c : UInt8) : ∀ i (h : i < [c].length), (w.alloc (.cells #[.int .u8 (by8 c)] 5)).cell? ⟨w.heap.size, i, none⟩ = some (.int .u8 (by8 [c][i])) := by
  intro i hi
  obtain rfl : i = 0 := by simpa using hi
  rw [cell_of_row _ _ _ _ _ _ (heap_alloc_new w _)]
  rfl

set_option maxRecDepth 20000 in
set_option maxHeartbeats 4000000 in
theorem padded_any (s : List UInt8) (hl : s.length < 1000000000000) (w : World) :
    Calls Tryd.prog 38 #[.string ⟨s.toArray⟩] w fun e w' => e = .returned (.string ⟨(padded s).toArray⟩) ∧ Below w.heap.size w w' := by
  have h128 : (128 : Int) = by8 128 := rfl
  have h0 : (0 : Int) = by8 0 := rfl
  have H128 := Lib.hid h128
  have H00 := Lib.hid h0
  clear h128 h0
  go_enter Tryd.func38, Tryd.ntmps38
  go_wp2_with (first
    | (refine wpList_bytes_own (o := ⟨some 7, _, _, _, _, _⟩) rfl (.tmp 6) rfl s rfl w.heap.size (Nat.le_refl _) (by omega) ?_; intro v1 w1 h1 b1; have O1 := Lib.hid h1; have B1 := Lib.hid (b1 _ _ (Below.refl _ _) (Nat.le_refl _)); clear h1 b1)
    | (refine wpList_append_bytes (o := ⟨some 9, _, _, _, _, _⟩) rfl (.tmp 7) (.tmp 8) rfl w.heap.size _ _ rfl (O1.out.kept ((Below.refl _ _).alloc (Nat.le_refl _) _)) w1.heap.size 1 1 [128] rfl rfl (one_cell w1 128) (by omega) (Nat.le_trans B1.out.size (by simp)) ?_; intro v2 w2 h2 s2 b2; have O2 := Lib.hid h2; have B2 := Lib.hid (b2 _ _ (B1.out.alloc B1.out.size _) (Nat.le_refl _)); clear h2 b2 s2))
  have hz : zer s.length < 64 := by unfold zer; omega
  go_loopw [3] (fun v wr => ∃ j, j ≤ zer s.length ∧ Hid (OwnB wr w.heap.size v (s ++ 128 :: List.replicate j 0)) ∧ Hid (Below w.heap.size w wr)) (fun v _ => s.length + 1 + zer s.length - slLen v)
  case atStart => exact ⟨0, by omega, O2, B2⟩
  case round =>
    obtain ⟨j, hj, HO, HB⟩ := hrel
    obtain ⟨p, c, rfl⟩ := HO.out.form
    have hlen : (s ++ 128 :: List.replicate j 0).length = s.length + 1 + j := by simp; omega
    rw [hlen] at HO ⊢
    obtain ⟨n, hn⟩ : ∃ n, n = s.length + 1 + j := ⟨_, rfl⟩
    rw [← hn] at HO ⊢
    obtain ⟨a, ha⟩ : ∃ a, a = n % 64 := ⟨_, rfl⟩
    have e1 : (n : Int) % 64 = (a : Int) := by omega
    have e2 : ((n : Int)).tmod 64 = (a : Int) := by rw [Int.tmod_eq_emod_of_nonneg (by omega)]; omega
    by_cases hlt : j < zer s.length
    · have e3 : ((a : Int) != 56) = true := by rw [bne_iff_ne]; unfold zer at hlt; omega
      have HLEN := Lib.hid hlen
      clear ha hlen
      go_wp2_with (refine wpList_append_bytes (o := ⟨some 16, _, _, _, _, _⟩) rfl (.tmp 14) (.tmp 15) rfl w.heap.size _ _ rfl (HO.out.kept ((Below.refl _ _).alloc (Nat.le_refl _) _)) wr.heap.size 1 1 [0] rfl rfl (one_cell wr 0) (by rw [HLEN.out]; omega) (Nat.le_trans HB.out.size (by simp)) ?_; intro v2 w2 h2 s2 b2; have O2 := Lib.hid h2; have B2 := Lib.hid (b2 _ _ (HB.out.alloc HB.out.size _) (Nat.le_refl _)); clear h2 b2 s2)
      rw [show (s ++ 128 :: List.replicate j 0) ++ [0] = s ++ 128 :: List.replicate (j + 1) 0 by rw [List.append_assoc, List.cons_append, replicate_more]] at O2
      obtain ⟨p2, c2, rfl⟩ := O2.out.form
      have hl2 : (s ++ 128 :: List.replicate (j + 1) 0).length = s.length + 1 + (j + 1) := by simp; omega
      refine ⟨⟨j + 1, by omega, O2, B2⟩, ?_⟩
      rw [hl2]
      simp only [slLen]
      omega
    · obtain rfl : j = zer s.length := by omega
      have e3 : ((a : Int) != 56) = false := by rw [bne_eq_false_iff_eq]; unfold zer at hn; omega
      clear ha
      have e4 : IntKind.u64.wrap (s.length : Int) = (s.length : Int) := by rw [IntKind.wrap_u64]; omega
      have e5 : IntKind.u64.wrap (8 * (s.length : Int)) = ((8 * s.length : Nat) : Int) := by rw [IntKind.wrap_u64]; omega
      obtain ⟨L, hL⟩ : ∃ L, L = 8 * s.length := ⟨_, rfl⟩
      rw [← hL] at e5
      have HL := Lib.hid hL
      have HM : Hid (∀ xs, xs ++ be 0 L = be 8 L → (s ++ 128 :: List.replicate (zer s.length) 0) ++ xs = padded s) := by
        intro xs hx
        rw [HL.out, be, List.append_nil] at hx
        unfold padded tail
        rw [hx, List.append_assoc, List.cons_append]
      have HLEN := Lib.hid (hlen.trans hn.symm)
      have HNS := Lib.hid hn
      have HZ := Lib.hid hz
      generalize s ++ 128 :: List.replicate (zer s.length) 0 = M at *
      clear hL hn hlen hz hlt hj
      go_wp2_with fail
      go_loopw [3, 5] (fun v x wr => ∃ q : Nat, q ≤ 8 ∧ x = .int .i64 ((q : Int) - 1) ∧ ∃ xs, Hid (xs ++ be q L = be 8 L) ∧ Hid (OwnB wr w.heap.size v (M ++ xs)) ∧ Hid (Below w.heap.size w wr)) (fun _ x _ => (intOf x + 1).toNat)
      case atStart => exact ⟨8, by omega, rfl, [], rfl, by rw [List.append_nil]; exact HO, HB⟩
      case round =>
        clear e1 e2 e3 e4 e5
        obtain ⟨q, hq, rfl, xs, HX, HO2, HB2⟩ := hrel
        by_cases hq0 : 0 < q
        · obtain ⟨k, rfl⟩ : ∃ k, q = k + 1 := ⟨q - 1, by omega⟩
          have e6 : ((k + 1 : Nat) : Int) - 1 = (k : Int) := by omega
          rw [e6]
          clear e6 hq0
          have k8 : (k : Int) ≤ 7 := by omega
          have e8 : IntKind.i64.wrap (8 * (k : Int)) = ((8 * k : Nat) : Int) := by rw [IntWalk.i64_in _ (by omega)]; omega
          have e9 : IntKind.u64.wrap ((8 * k : Nat) : Int) = ((8 * k : Nat) : Int) := by rw [IntKind.wrap_u64]; omega
          have e7 : (L : Int) / 2 ^ (8 * k) % 256 = by8 (UInt8.ofNat (L / 256 ^ k)) := by
            rw [← byte_ofN, IntKind.wrap_u8, Int.pow_mul, Int.natCast_ediv, Int.natCast_pow]
            rfl
          have HBE : Hid (be (k + 1) L = UInt8.ofNat (L / 256 ^ k) :: be k L) := rfl
          generalize UInt8.ofNat (L / 256 ^ k) = cc at *
          have HML : Hid ((M ++ xs).length + 1 ≤ 1099511627776) := by
            have h1 := congrArg List.length HX.out
            have h2 := HLEN.out
            have h3 := HZ.out
            have h4 := HNS.out
            rw [List.length_append, be_length, be_length] at h1
            show _ ≤ _
            rw [List.length_append]
            omega
          go_wp2_with (refine wpList_append_bytes (o := ⟨some 33, _, _, _, _, _⟩) rfl (.tmp 25) (.tmp 32) rfl w.heap.size _ _ rfl (HO2.out.kept ((Below.refl _ _).alloc (Nat.le_refl _) _)) wr.heap.size 1 1 [cc] rfl rfl (one_cell wr cc) HML.out (Nat.le_trans HB2.out.size (by simp)) ?_; intro v2 w2 h2 s2 b2; have O2 := Lib.hid h2; have B2 := Lib.hid (b2 _ _ (HB2.out.alloc HB2.out.size _) (Nat.le_refl _)); clear h2 b2 s2)
          refine ⟨⟨k, by omega, rfl, xs ++ [cc], Lib.hid (by rw [← HX.out, HBE.out, List.append_assoc]; rfl), by rw [← List.append_assoc]; exact O2, B2⟩, by simp [intOf]⟩
        · obtain rfl : q = 0 := by omega
          rw [show ((0 : Nat) : Int) - 1 = -1 from rfl]
          have hM := HM.out xs HX.out
          rw [hM] at HO2
          have hcv := HO2.out.conv
          go_wp2
          go_ret
          exact ⟨rfl, HB2.out⟩
end Go.Proofs.YtjjdjdhkfmfchaaDoor

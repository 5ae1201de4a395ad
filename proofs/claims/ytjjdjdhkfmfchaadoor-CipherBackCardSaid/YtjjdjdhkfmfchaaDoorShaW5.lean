/- The walk of (*sha.Hash).Sum. -/
import Derived.Test.YtjjdjdhkfmfchaaDoorBytes
import Derived.Test.YtjjdjdhkfmfchaaDoorShaPlain3
namespace Go.Proofs.YtjjdjdhkfmfchaaDoor
set_option linter.unusedVariables false
set_option linter.unusedSimpArgs false
open Go.RowKit Sha

/-- what a cell counts. -/
def cntOf : Option Value → Nat
  | some (.int _ n) => n.toNat
  | _ => 0

theorem copy_some (b : Nat) (m : List UInt8) (w : World) (h : Holds w b m) :
    Calls Tryd.prog 30 #[.pointer (some ⟨b, 0, none⟩)] w fun e w' => e = .returned (.pointer (some ⟨w.heap.size, 0, none⟩)) ∧ Holds w' w.heap.size m ∧ Below w.heap.size w w' ∧ w'.heap.size = w.heap.size + 1 := by
  obtain ⟨wait, hA, hwt⟩ := h
  refine (copy_any b _ wait _ w hA).mono ?_
  rintro e w1 ⟨rfl, rfl⟩
  exact ⟨rfl, ⟨wait, ⟨heap_alloc_new w _, hA.st8, hA.wait64⟩, hwt⟩, (Below.refl _ _).alloc (Nat.le_refl _) _, by simp⟩

theorem new_some (w : World) :
    Calls Tryd.prog 36 #[] w fun e w' => e = .returned (.pointer (some ⟨w.heap.size, 0, none⟩)) ∧ Holds w' w.heap.size [] ∧ Below w.heap.size w w' ∧ w'.heap.size = w.heap.size + 1 := by
  refine (new_any w).mono ?_
  rintro e w1 ⟨rfl, rfl⟩
  exact ⟨rfl, ⟨zeros64, ⟨heap_alloc_new w _, rfl, rfl⟩, rfl⟩, (Below.refl _ _).alloc (Nat.le_refl _) _, by simp⟩

theorem count_of {w : World} {b : Nat} {m : List UInt8} (h : Holds w b m) : w.cell? ⟨b, 72, none⟩ = some (.int .i64 m.length) := by
  obtain ⟨_, h, _⟩ := h
  exact h.count

set_option maxRecDepth 20000 in
set_option maxHeartbeats 4000000 in
theorem sum_some (b : Nat) (m : List UInt8) (w : World) (h : Holds w b m) (hk : KLaid w) (hl : m.length < 1000000000000) :
    Calls Tryd.prog 32 #[.pointer (some ⟨b, 0, none⟩)] w fun e w' => e = .returned (.string ⟨(sha m).toArray⟩) ∧ Below w.heap.size w w' := by
  have H := Lib.hid h
  have HK := Lib.hid hk
  have hKL := hk.lt
  have hg : w.heap.size ≠ 0 := by omega
  have HG := Lib.hid hg
  clear hk h hKL hg
  go_enter Tryd.func32, Tryd.ntmps32
  go_wp2_with (go_at_call 30; refine (copy_some b m w H.out).mono ?_; rintro e w1 ⟨rfl, h1, b1, s1⟩)
  have H1 := Lib.hid h1
  have B1 := Lib.hid b1
  clear h1 b1 s1
  go_wp2_with (go_at_call 31; refine (write_some w.heap.size m [128] w1 H1.out (HK.out.below B1.out) HG.out (by simp; omega)).mono ?_; rintro e w2 ⟨rfl, h2, g2⟩)
  have H2 := Lib.hid h2
  have B2 := Lib.hid (B1.out.grown g2 B1.out.size (fun k hk => by injection hk with hk; omega))
  clear h2 g2 H1 B1
  have hz : zer m.length < 64 := by unfold zer; omega
  go_loopw [] (fun wr => ∃ j, j ≤ zer m.length ∧ Hid (Holds wr w.heap.size (m ++ 128 :: List.replicate j 0)) ∧ Below w.heap.size w wr) (fun wr => m.length + 1 + zer m.length - cntOf (wr.cell? ⟨w.heap.size, 72, none⟩))
  case atStart => exact ⟨0, by omega, H2, B2.out⟩
  case round =>
    obtain ⟨j, hj, HJ, hB⟩ := hrel
    have HB := Lib.hid hB
    clear hB
    have hlen : (m ++ 128 :: List.replicate j 0).length = m.length + 1 + j := by simp; omega
    have c72 := count_of HJ.out
    rw [hlen] at c72
    obtain ⟨n, hn⟩ : ∃ n, n = m.length + 1 + j := ⟨_, rfl⟩
    rw [← hn] at c72
    obtain ⟨a, ha⟩ : ∃ a, a = n % 64 := ⟨_, rfl⟩
    have e1 : (n : Int) % 64 = (a : Int) := by omega
    have e2 : ((n : Int)).tmod 64 = (a : Int) := by rw [Int.tmod_eq_emod_of_nonneg (by omega)]; omega
    by_cases hlt : j < zer m.length
    · have e3 : ((a : Int) != 56) = true := by rw [bne_iff_ne]; unfold zer at hlt; omega
      have HLEN := Lib.hid hlen
      have c72' := Lib.hid c72
      go_wp2_with (go_at_call 31; refine (write_some w.heap.size _ [0] wr HJ.out (HK.out.below HB.out) HG.out (by rw [HLEN.out]; simp; omega)).mono ?_; rintro e w3 ⟨rfl, h3, g3⟩)
      have hr3 : (m ++ 128 :: List.replicate j 0) ++ [0] = m ++ 128 :: List.replicate (j + 1) 0 := by rw [List.append_assoc, List.cons_append, replicate_more]
      rw [hr3] at h3
      have c3 := count_of h3
      go_roundw
      case rel => exact ⟨j + 1, by omega, Lib.hid h3, HB.out.grown g3 HB.out.size (fun k hk => by injection hk with hk; omega)⟩
      case measure => rw [c3, c72'.out]; simp [cntOf]; omega
    · obtain rfl : j = zer m.length := by omega
      have e3 : ((a : Int) != 56) = false := by rw [bne_eq_false_iff_eq]; unfold zer at hn; omega
      clear ha
      have hc0 : wr.cell? ⟨b, 72, none⟩ = some (.int .i64 m.length) := by
        rw [HB.out.cell (p := ⟨b, 72, none⟩) H.out.lt]; exact count_of H.out
      have e4 : IntKind.u64.wrap (m.length : Int) = (m.length : Int) := by rw [IntKind.wrap_u64]; omega
      have e5 : IntKind.u64.wrap ((m.length : Int) * 8) = ((8 * m.length : Nat) : Int) := by rw [IntKind.wrap_u64]; omega
      obtain ⟨L, hL⟩ : ∃ L, L = 8 * m.length := ⟨_, rfl⟩
      rw [← hL] at e5
      have HL := Lib.hid hL
      have HM : Hid (∀ xs, xs ++ be 0 L = be 8 L → (m ++ 128 :: List.replicate (zer m.length) 0) ++ xs = padded m) := by
        intro xs hx
        rw [HL.out, be, List.append_nil] at hx
        unfold padded tail
        rw [hx, List.append_assoc, List.cons_append]
      have HLEN := Lib.hid hlen
      have HZ := Lib.hid hz
      generalize m ++ 128 :: List.replicate (zer m.length) 0 = M at *
      clear hL hn hlen hz hlt hj
      go_wp2_with fail
      go_loopw [5] (fun x wr => ∃ q : Nat, q ≤ 8 ∧ x = .int .i64 (8 * (q : Int) - 8) ∧ ∃ xs, Hid (xs ++ be q L = be 8 L) ∧ Hid (Holds wr w.heap.size (M ++ xs)) ∧ Below w.heap.size w wr) (fun x _ => (intOf x + 8).toNat)
      case atStart => exact ⟨8, by omega, rfl, [], rfl, by rw [List.append_nil]; exact HJ, HB.out⟩
      case round =>
        clear c72 e1 e2 e3 hc0 e4 e5
        obtain ⟨q, hq, rfl, xs, HX, HJ2, hB⟩ := hrel
        have HB2 := Lib.hid hB
        clear hB HB HJ
        by_cases hq0 : 0 < q
        · obtain ⟨p, rfl⟩ : ∃ p, q = p + 1 := ⟨q - 1, by omega⟩
          have e6 : 8 * ((p + 1 : Nat) : Int) - 8 = ((8 * p : Nat) : Int) := by omega
          rw [e6]
          clear e6 hq0
          have e7 : (L : Int) / 2 ^ (8 * p) % 256 = by8 (UInt8.ofNat (L / 256 ^ p)) := by
            rw [← byte_ofN, IntKind.wrap_u8, Int.pow_mul, Int.natCast_ediv, Int.natCast_pow]
            rfl
          have HBE : Hid (be (p + 1) L = UInt8.ofNat (L / 256 ^ p) :: be p L) := rfl
          have hml : (M ++ xs).length + 1 < 1152921504606846976 := by
            have h1 := congrArg List.length HX.out
            have h2 := HLEN.out
            have h3 := HZ.out
            rw [List.length_append, be_length, be_length] at h1
            rw [List.length_append]
            omega
          have HML := Lib.hid hml
          generalize UInt8.ofNat (L / 256 ^ p) = c at *
          have hcv : (convert 31 9 (.slice (some ⟨wr.heap.size, 0, none⟩) 1 1)).run Tryd.prog (wr.alloc (.cells #[.int .u8 (by8 c)] 5)) = .ok (.string ⟨[c].toArray⟩) (wr.alloc (.cells #[.int .u8 (by8 c)] 5)) :=
            conv_bytes (l := [c]) rfl (fun i hi => by
              obtain rfl : i = 0 := by simpa using hi
              rw [cell_of_row _ _ _ _ _ _ (heap_alloc_new wr _)]
              rfl)
          have hal : Hid (∀ W, W = wr.alloc (.cells #[.int .u8 (by8 c)] 5) → Holds W w.heap.size (M ++ xs) ∧ Below w.heap.size w W) := by
            intro W hW
            subst hW
            exact ⟨HJ2.out.kept (heap_alloc_old wr _ HJ2.out.lt), HB2.out.alloc (Nat.le_of_lt HJ2.out.lt) _⟩
          clear hml
          go_wp2_with (go_at_call 31; obtain ⟨hw1, hw2⟩ := hal.out _ rfl; refine (write_some w.heap.size _ [c] _ hw1 (HK.out.below hw2) HG.out (by simpa using HML.out)).mono ?_; rintro e w3 ⟨rfl, h3, g3⟩; replace hw2 := hw2.grown g3 hw2.size (fun k hk => by injection hk with hk; omega); replace hw1 := Lib.hid h3; clear h3 g3)
          have e8 : IntKind.i64.wrap ((8 * p : Nat) - 8 : Int) = 8 * (p : Int) - 8 := by rw [IntWalk.i64_in _ (by omega)]; omega
          go_roundw
          case rel => exact ⟨p, by omega, by go_num, xs ++ [c], Lib.hid (by rw [← HX.out, HBE.out, List.append_assoc]; rfl), Lib.hid (by rw [← List.append_assoc]; exact hw1.out), hw2⟩
          case measure => simp [intOf]; omega
        · obtain rfl : q = 0 := by omega
          rw [show 8 * ((0 : Nat) : Int) - 8 = -8 from rfl]
          have hM := HM.out xs HX.out
          rw [hM] at HJ2
          obtain ⟨s, hs⟩ : ∃ s, stA (padded m) ((padded m).length / 64) = s := ⟨_, rfl⟩
          have hst : ∀ j v, [Value.int .u32 (u s.a), .int .u32 (u s.b), .int .u32 (u s.c), .int .u32 (u s.d), .int .u32 (u s.e), .int .u32 (u s.f), .int .u32 (u s.g), .int .u32 (u s.h)][j]? = some v → wr.cell? ⟨w.heap.size, j, none⟩ = some v := by
            intro j v hv
            obtain ⟨wt, hA, _⟩ := HJ2.out
            rw [hs] at hA
            have hj : j < 8 := by
              have := (List.getElem?_eq_some_iff.1 hv).1
              simpa using this
            rw [hA.state j hj]
            obtain rfl | rfl | rfl | rfl | rfl | rfl | rfl | rfl : j = 0 ∨ j = 1 ∨ j = 2 ∨ j = 3 ∨ j = 4 ∨ j = 5 ∨ j = 6 ∨ j = 7 := by omega
            all_goals exact hv
          have HSHA : Hid (wsum (s.list.take 8) = sha m) := by
            show _ = _
            unfold sha
            rw [hs]
            rfl
          have HIX := Lib.hid fun (j : Nat) (hj : j < 8) (W0 : World) => idx8 s j hj W0
          have HST := Lib.hid hst
          have HLT := Lib.hid HJ2.out.lt
          clear hM hs hst
          go_wp2_with (first
            | (refine wpList_make_bytes (o := ⟨some 41, _, _, _, _, _⟩) rfl _ _ rfl wr.heap.size 32 rfl rfl (by omega) (Nat.le_refl _) ?_; intro W1 ho1 hb1)
            | (refine wpList_load_mid (op := ⟨some 45, _, _, _, _, _⟩) rfl 59 (.tmp 44) rfl w.heap.size 0 rfl [Value.int .u32 (u s.a), .int .u32 (u s.b), .int .u32 (u s.c), .int .u32 (u s.d), .int .u32 (u s.e), .int .u32 (u s.f), .int .u32 (u s.g), .int .u32 (u s.h)] _ (fun j v hv => by rw [Nat.zero_add, hb1.cell (p := ⟨w.heap.size, j, none⟩) HLT.out]; exact HST.out j v hv) Tryd.underlying59 rfl rfl ?_))
          have HO1 := Lib.hid ho1
          have HB3 := Lib.hid hb1
          clear ho1 hb1
          obtain ⟨wo, rfl⟩ : ∃ wo : World, wo = wr := ⟨_, rfl⟩
          go_loopw [6, 46] (fun v i wr2 => ∃ j : Nat, j ≤ 8 ∧ i = .int .i64 (j : Int) ∧ Hid (OwnB wr2 wo.heap.size v (wsum (s.list.take j))) ∧ Below wo.heap.size wo wr2) (fun _ i _ => (8 - intOf i).toNat)
          case atStart => exact ⟨0, by omega, rfl, HO1, HB3.out⟩
          case round =>
            obtain ⟨j, hj, rfl, HO, hB3⟩ := hrel
            have HB4 := Lib.hid hB3
            clear hB3 HB3 HO1
            by_cases hj8 : j < 8
            · have hix := fun W0 => HIX.out j hj8 W0
              have hi8 : (j : Int) < 8 := by omega
              have hnx := wsum_next s.list j (by rw [St.list_length]; exact hj8)
              have hwl : (wsum (s.list.take j)).length ≤ 32 := by rw [wsum_length, List.length_take, St.list_length]; omega
              have HWL := Lib.hid hwl
              have HNX := Lib.hid hnx
              clear hwl hnx
              generalize s.list.getD j 0 = x at *
              have f1 : u x / (16777216 : Int) % (256 : Int) = by8 (x >>> 24).toUInt8 := by rw [show u x / (16777216 : Int) = u (x >>> 24) from u_shr x 24 (by omega), ← byte_of, IntKind.wrap_u8]
              have f2 : u x / (65536 : Int) % (256 : Int) = by8 (x >>> 16).toUInt8 := by rw [show u x / (65536 : Int) = u (x >>> 16) from u_shr x 16 (by omega), ← byte_of, IntKind.wrap_u8]
              have f3 : u x / (256 : Int) % (256 : Int) = by8 (x >>> 8).toUInt8 := by rw [show u x / (256 : Int) = u (x >>> 8) from u_shr x 8 (by omega), ← byte_of, IntKind.wrap_u8]
              have f4 : u x % (256 : Int) = by8 x.toUInt8 := by rw [← byte_of, IntKind.wrap_u8]
              have hca : ∀ i (h : i < (wbytes x).length), (wr.alloc (.cells #[.int .u8 (by8 (x >>> 24).toUInt8), .int .u8 (by8 (x >>> 16).toUInt8), .int .u8 (by8 (x >>> 8).toUInt8), .int .u8 (by8 x.toUInt8)] 5)).cell? ⟨wr.heap.size, i, none⟩ = some (.int .u8 (by8 (wbytes x)[i])) := by
                intro i hi
                rw [cell_of_row _ _ i _ _ _ (heap_alloc_new wr _)]
                have : i < 4 := hi
                obtain rfl | rfl | rfl | rfl : i = 0 ∨ i = 1 ∨ i = 2 ∨ i = 3 := by omega
                all_goals rfl
              have HCA := Lib.hid hca
              clear hca
              go_wp2_with (refine wpList_append_bytes (o := ⟨some 62, _, _, _, _, _⟩) rfl (.tmp 49) (.tmp 61) rfl wo.heap.size _ _ rfl (HO.out.kept ((Below.refl _ _).alloc (Nat.le_refl _) _)) wr.heap.size 4 4 (wbytes x) rfl rfl HCA.out (by have := HWL.out; omega) (Nat.le_trans HB4.out.size (by simp)) ?_; intro v' w' ho' hs' hb')
              refine ⟨⟨j + 1, by omega, by go_num, Lib.hid (by rw [← HNX.out]; exact ho'), hb' _ _ (HB4.out.alloc HB4.out.size _) (Nat.le_refl _)⟩, by simp [intOf]; omega⟩
            · obtain rfl : j = 8 := by omega
              rw [HSHA.out] at HO
              have hcv := HO.out.conv
              go_wp2
              go_ret
              exact ⟨rfl, HB2.out.trans (HB4.out.mono HB2.out.size)⟩

/-- Sum of no hash is the empty text. -/
theorem sum_none (w : World) :
    Calls Tryd.prog 32 #[.pointer none] w fun e w' => e = .returned (.string ⟨#[]⟩) ∧ w = w' := by
  go_enter Tryd.func32, Tryd.ntmps32
  go_wp2
  go_ret
  exact ⟨rfl, rfl⟩

/-- sha.Sum, of any text that a slice could hold. -/
theorem shaSum_any (s : List UInt8) (w : World) (hk : KLaid w) (hl : s.length < 1000000000000) :
    Calls Tryd.prog 25 #[.string ⟨s.toArray⟩] w fun e w' => e = .returned (.string ⟨(sha s).toArray⟩) ∧ Below w.heap.size w w' := by
  have HK := Lib.hid hk
  have hKL := hk.lt
  have hg : w.heap.size ≠ 0 := by omega
  have HG := Lib.hid hg
  clear hk hKL hg
  go_enter Tryd.func25, Tryd.ntmps25
  go_wp2_with (go_at_call 36; refine (new_some w).mono ?_; rintro e w1 ⟨rfl, h1, b1, s1⟩; have H1 := Lib.hid h1; have B1 := Lib.hid b1; clear h1 b1 s1)
  go_wp2_with (go_at_call 31; refine (write_some w.heap.size [] s w1 H1.out (HK.out.below B1.out) HG.out (by simp; omega)).mono ?_; rintro e w2 ⟨rfl, h2, g2⟩; have H2 := Lib.hid h2; have B2 := Lib.hid (B1.out.grown g2 B1.out.size (fun k hk => by injection hk with hk; omega)); clear h2 g2)
  rw [List.nil_append] at H2
  go_wp2_with (go_at_call 32; refine (sum_some w.heap.size s w2 H2.out (HK.out.below B2.out) hl).mono ?_; rintro e w3 ⟨rfl, b3⟩)
  go_ret
  exact ⟨rfl, B2.out.trans (b3.mono B2.out.size)⟩
end Go.Proofs.YtjjdjdhkfmfchaaDoor

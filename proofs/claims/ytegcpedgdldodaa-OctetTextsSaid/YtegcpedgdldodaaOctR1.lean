/- The walks of the reference's digits, Num, ReadNum. -/
import Derived.Test.YtegcpedgdldodaaOctW3
import Derived.Deep.RegionWith
import Derived.Deep.QuietTactic
import Derived.BigQuiet
import Derived.Deep.RegionHeld3
import Derived.WalkSmall
namespace Go.Proofs.Ytegcpedgdldodaa
set_option linter.unusedVariables false
set_option linter.unusedSimpArgs false
open Go.RowKit Oct
attribute [local go_sem] ByteArray.mk_append_mk

/-- string([]byte{x}), wherever the byte's cell lies. -/
theorem conv_one (x : Int) (W : World) (b : Nat) (h : W.cell? ⟨b, 0, none⟩ = some (.int .u8 x)) :
    (convert 45 9 (.slice (some ⟨b, 0, none⟩) 1 1)).run Try.prog W = .ok (.string (strOfNums [x])) W :=
  run_convert_bytes_arg (P := Try.prog) W 45 5 Try.underlying45 Try.underlying5 b 0 1 1 [x] rfl
    (fun i hi => by obtain rfl : i = 0 := by omega
                    simpa using h) 9 Try.underlying9
theorem strOf_one (v : Nat) : strOfNums [(v : Int) % 256] = ⟨[UInt8.ofNat v].toArray⟩ := by
  unfold strOfNums
  have : UInt8.ofNat ((v : Int) % 256).toNat = UInt8.ofNat v := by
    apply UInt8.toNat_inj.1
    simp only [UInt8.toNat_ofNat']
    omega
  simp [this]

set_option maxRecDepth 20000 in
set_option maxHeartbeats 400000 in
theorem digits_any (k : Nat) : ∀ (v : Nat) (w : World), v < 256 ^ k → k ≤ 8 →
    Calls Try.prog 24 #[.int .u64 v] w fun e w' => e = .returned (.string ⟨(digs v).toArray⟩) ∧ Below w.heap.size w w' := by
  induction k with
  | zero =>
    intro v w hv _
    obtain rfl : v = 0 := by simpa using hv
    go_enter Try.func24, Try.ntmps24
    go_wp2
    go_ret
    exact ⟨by rw [digs_zero]; rfl, Below.refl _ _⟩
  | succ k ih =>
    intro v w hv hk
    by_cases h0 : v = 0
    · subst h0
      go_enter Try.func24, Try.ntmps24
      go_wp2
      go_ret
      exact ⟨by rw [digs_zero]; rfl, Below.refl _ _⟩
    · have hb : ((v : Int) == 0) = false := by simp; omega
      have hv8 : v < 256 ^ 8 := Nat.lt_of_lt_of_le hv (Nat.pow_le_pow_right (by omega) hk)
      have hlen := digs_length (v / 256)
      have HS := Lib.hid (digs_step (by omega) hv8)
      have IH := Lib.hid fun w => ih (v / 256) w (by rw [Nat.div_lt_iff_lt_mul (by omega)]; rw [Nat.pow_succ] at hv; exact hv) (by omega)
      rw [p8] at hv8
      have IH2 : Hid (∀ w : World, Calls Try.prog 24 #[.int .u64 ((v : Int) / 256)] w fun e w' => e = .returned (.string ⟨(digs (v / 256)).toArray⟩) ∧ Below w.heap.size w w') := by
        have e : ((v : Int) / 256) = ((v / 256 : Nat) : Int) := by omega
        rw [e]; exact IH.out
      have e1 : IntKind.u64.wrap ((v : Int) / 256) = (v : Int) / 256 := PlainAid.u64_nonneg (by omega) (by omega)
      have e2 : ((v : Int)).tmod 256 = (v : Int) % 256 := Int.tmod_eq_emod_of_nonneg (by omega)
      have e3 : IntKind.u8.wrap ((v : Int) % 256) = (v : Int) % 256 := by rw [IntKind.wrap_u8]; omega
      have hcv := conv_one ((v : Int) % 256)
      rw [strOf_one] at hcv
      clear hv ih IH hv8
      go_enter Try.func24, Try.ntmps24
      go_wp2
      go_region_with (go_at_call 24; with_reducible refine (IH2.out _).mono ?_; rintro e w1 ⟨rfl, b1⟩; try (have hcc : w1.cell? ⟨w.heap.size, 0, none⟩ = some (.int .u8 ((v : Int) % 256)) := by (rw [b1.cell (by simp)]; simp)))
      all_goals
        go_wp2
        go_ret
        refine ⟨by rw [HS.out]; rfl, ?_⟩
        first
          | exact (((Below.refl _ _).drew).trans b1).alloc b1.size _
          | exact (((Below.refl _ _).alloc (Nat.le_refl _) _).drew).trans (b1.mono (by simp))

theorem rdigits_any (v : Nat) (w : World) (hv : v < 256 ^ 8) :
    Calls Try.prog 24 #[.int .u64 v] w fun e w' => e = .returned (.string ⟨(digs v).toArray⟩) ∧ Below w.heap.size w w' :=
  digits_any 8 v w hv (by omega)

set_option maxRecDepth 20000 in
set_option maxHeartbeats 400000 in
/-- the reference's Num answers the number's bytes. -/
theorem rnum_any (v : Nat) (w : World) (hv : v < 256 ^ 8) :
    Calls Try.prog 12 #[.int .u64 v] w fun e w' => e = .returned (.string ⟨(num v).toArray⟩) ∧ Below w.heap.size w w' := by
  by_cases h : v < 248
  · have hcv := conv_one (v : Int)
    have hn : (.string ⟨(num v).toArray⟩ : Value) = .string (strOfNums [(v : Int)]) := by rw [num_short h]; rfl
    have HN := Lib.hid hn
    clear hn hv
    go_enter Try.func12, Try.ntmps12
    go_wp2
    go_ret
    exact ⟨by rw [HN.out]; rfl, (Below.refl _ _).alloc (Nat.le_refl _) _⟩
  · have HD := Lib.hid fun w => rdigits_any v w hv
    have hl : (digs v).length = nd v := by unfold digs; rw [dg_length]
    have h8 := nd_le v
    have hcv := conv_one (((247 + nd v : Nat) : Int) % 256)
    rw [strOf_one] at hcv
    have h2 : ((247 + nd v : Nat) : Int) % 256 = 247 + (nd v : Int) := by omega
    rw [h2] at hcv
    have hn : num v = [UInt8.ofNat (247 + nd v)] ++ digs v := by rw [num_long h]; rfl
    generalize UInt8.ofNat (247 + nd v) = c at hcv hn
    have HN := Lib.hid hn
    clear h2 hv hn
    go_enter Try.func12, Try.ntmps12
    go_wp2_with (go_at_call 24; refine (HD.out _).mono ?_; rintro e w1 ⟨rfl, b1⟩)
    go_ret
    refine ⟨by rw [HN.out]; rfl, ?_⟩
    exact b1.alloc b1.size _
end Go.Proofs.Ytegcpedgdldodaa

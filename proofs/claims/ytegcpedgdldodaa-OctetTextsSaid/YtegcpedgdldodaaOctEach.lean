/- The walks of octet's each and of its iterator. -/
import Derived.Test.YtegcpedgdldodaaOctEachP
import Derived.Test.YtegcpedgdldodaaOctW3
import Derived.Test.YtegcpedgdldodaaRange0
import Derived.Test.YtegcpedgdldodaaRound
import Derived.Test.YtegcpedgdldodaaMemLaws
import Derived.Deep.RegionHeld3
import Derived.RangeFuncNested
import Derived.RangeFuncLeaves
import Derived.OwnWalkIn
import Derived.TacticsInMore
import Derived.LoopNIn
import Derived.LoopIn
namespace Go.Proofs.Ytegcpedgdldodaa
set_option linter.unusedVariables false
set_option linter.unusedSimpArgs false
open Go.RowKit Oct
attribute [local go_sem] Oper.semAt_some ByteArray.extract_mk

theorem each_any (s : List UInt8) (most : Int) (w : World) :
    Calls Try.prog 25 #[.string ⟨s.toArray⟩, .int .i64 most] w fun e w' => e = .returned (.func (.func 26) #[] #[.pointer (some ⟨w.heap.size, 0, none⟩), .pointer (some ⟨w.heap.size + 1, 0, none⟩)]) ∧
      w' = (w.alloc (.cells #[.string ⟨s.toArray⟩] 9)).alloc (.cells #[.int .i64 most] 3) := by
  go_enter Try.func25, Try.ntmps25
  go_wp2
  go_ret
  exact ⟨rfl, rfl⟩

/-- a text that was read, as it is handed to yield. -/
def oneV (t : List UInt8) (n e : Nat) : Value := .agg #[.string ⟨t.toArray⟩, .int .i64 n, .int .i64 e]
def elO (s : List UInt8) (m : Int) (k : Nat) : Array Value := #[oneV (tx s m k) (plc s m (k + 1)) (er s m k)]

theorem readtext_atR {l t : List UInt8} {most : Int} {n x : Nat} (w : World) (hm : l.length < 1000000000) (hmo : most ≤ 9223372036854775807) (h : readText l most = (t, n, x)) :
    Calls Try.prog 13 #[.string ⟨l.toArray⟩, .int .i64 most] w fun e w' => e = .returned (.tuple #[.string ⟨t.toArray⟩, .int .i64 n, .int .i64 x]) ∧ w = w' := by
  have := readtext_any l most w hm hmo
  rw [h] at this
  exact this

set_option maxRecDepth 20000 in
set_option maxHeartbeats 4000000 in
theorem each_hands (s : List UInt8) (hs : s.length < 100000000) (most : Int) (hmo : most ≤ 9223372036854775807) (K : Nat) (hK : ferr s most K = 0) (bs bm : Nat) (W0 : World)
    (hb : W0.heap[bs]? = some (.cells #[.string ⟨s.toArray⟩] 9 (0, 0))) (hbm : W0.heap[bm]? = some (.cells #[.int .i64 most] 3 (0, 0))) :
    Hands0 Try.prog 26 #[.pointer (some ⟨bs, 0, none⟩), .pointer (some ⟨bm, 0, none⟩)] (elO s most) K (fun b => b = bs ∨ b = bm) W0 := by
  intro l J Jx hJ hJx hY hYK h0
  have HJ := Lib.hid hJ
  have HJX := Lib.hid hJx
  have HY := Lib.hid hY
  have HYK := Lib.hid hYK
  have HBS := Lib.hid hb
  have HBM := Lib.hid hbm
  have HJ0 := Lib.hid h0
  have HKF := Lib.hid hK
  clear hJ hJx hY hYK hb hbm h0 hK
  refine callsIn_of_wp Try.func26 rfl trivial ?_ rfl
  simp only [Try.ntmps26, List.size_toArray, List.length_cons, List.length_nil, Nat.reduceAdd, Nat.reduceSub, Array.replicate_succ, Array.replicate_zero, List.push_toArray, List.append_toArray, List.nil_append, List.cons_append]
  gi_wp2
  gi_loopw [4] (fun i wr => ∃ k p : Nat, k ≤ K ∧ i = .int .i64 p ∧ Hid (p = plc s most k) ∧ Hid (wr.heap[bs]? = some (.cells #[.string ⟨s.toArray⟩] 9 (0, 0))) ∧ Hid (wr.heap[bm]? = some (.cells #[.int .i64 most] 3 (0, 0))) ∧ Hid (W0.heap.size ≤ wr.heap.size) ∧ Hid (J k wr)) (fun i _ => s.length + 1 - (intOf i).toNat)
  case atStart => exact ⟨0, 0, Nat.zero_le _, rfl, rfl, HBS, HBM, Lib.hid (Nat.le_refl _), HJ0⟩
  case round =>
    obtain ⟨k, p, hk, rfl, HP, HB, HM, HZ, HJW⟩ := hrel
    have hpl : p ≤ s.length := by rw [HP.out]; exact plc_le s most k
    have hcb : wr.cell? ⟨bs, 0, none⟩ = some (.string ⟨s.toArray⟩) := by rw [cell_of_row _ _ _ _ _ _ HB.out]; rfl
    have hcm : wr.cell? ⟨bm, 0, none⟩ = some (.int .i64 most) := by rw [cell_of_row _ _ _ _ _ _ HM.out]; rfl
    have hdb : wr.drew.cell? ⟨bs, 0, none⟩ = some (.string ⟨s.toArray⟩) := hcb
    have hdm : wr.drew.cell? ⟨bm, 0, none⟩ = some (.int .i64 most) := hcm
    have hpi : (p : Int) ≤ s.length := by omega
    have hp0 : (0 : Int) ≤ p := by omega
    rcases hrt : readText (s.drop p) most with ⟨r, n, e⟩
    have HRT := Lib.hid hrt
    have HLE : Hid (n ≤ s.length - p ∧ e < 100) := by
      have := readText_le (s.drop p) most
      rw [hrt, List.length_drop] at this
      exact this
    have hpn : p + n ≤ s.length := by have := HLE.out; omega
    have he100 : e < 100 := HLE.out.2
    have HEL : Hid (elO s most k = #[oneV r (p + n) e] ∧ e = er s most k ∧ p + n = plc s most (k + 1)) := by
      unfold elO tx er
      simp only [plc]
      rw [← HP.out, hrt]
      exact ⟨rfl, rfl, rfl⟩
    obtain ⟨q, hq⟩ : ∃ q, q = p + n := ⟨_, rfl⟩
    have HQ := Lib.hid hq
    rw [← hq] at HEL
    have e1 : IntKind.i64.wrap ((p : Int) + (n : Int)) = (q : Int) := by rw [IntWalk.i64_in _ (by omega)]; omega
    have e1' : (p : Int) + (n : Int) = (q : Int) := by omega
    have htk : List.take (s.length - p) (List.drop p s) = List.drop p s := List.take_of_length_le (by rw [List.length_drop]; omega)
    have HRD : Hid (∀ W, Calls Try.prog 13 #[.string ⟨(s.drop p).toArray⟩, .int .i64 most] W fun e' w' => e' = .returned (.tuple #[.string ⟨r.toArray⟩, .int .i64 n, .int .i64 e]) ∧ W = w') :=
      fun W => readtext_atR W (by rw [List.length_drop]; omega) hmo HRT.out
    clear hrt hq
    have HJD : Hid (J k wr.drew) := HJ.out k wr wr.drew none HJW.out ⟨rfl, rfl, rfl, Nat.le_refl _, fun _ _ _ => rfl⟩ (fun r e => by cases e)
    by_cases hkK : k < K
    · have hz := (ferr_zero s most K k HKF.out hkK).1
      have he0 : e = 0 := by rw [HEL.out.2.1]; exact hz
      obtain ⟨fy, ty, ay, by', hy, hR⟩ : YieldAt Fence.wide 0 Try.prog l #[oneV r q e] wr.drew _ := by
        have h1 := HY.out k wr.drew hkK HJD.out HZ.out
        rw [HEL.out.1] at h1
        exact h1
      have HR := Lib.hid hR
      have hn1 : 1 ≤ n := by
        have h := HRT.out
        rw [he0] at h
        exact (readText_okR h).1
      have hx2 : ((e : Int) != 0) = false := by rw [bne_eq_false_iff_eq]; omega
      have hx3 : (e != 0) = false := by rw [bne_eq_false_iff_eq]; omega
      unfold oneV at hy
      clear hR hz he0
      gi_wp2_with fail
      refine wpIn_wide.2 ?_
      go_region_held3 (fun w' => w'.cell? ⟨bs, 0, none⟩ = some (.string ⟨s.toArray⟩) ∧ w'.cell? ⟨bm, 0, none⟩ = some (.int .i64 most)) (constructor <;> assumption) (first | (go_at_call 13; (with_reducible refine (HRD.out _).mono ?_); rintro e5 w5 ⟨rfl, rfl⟩) | fail)
      all_goals
        gi_wp2_with fail
        refine ⟨rfl, ?_⟩
        refine HR.out.mono ?_; rintro e8 w8 ⟨rfl, hj8, hkept⟩
        have HB8 : Hid (w8.heap[bs]? = some (.cells #[.string ⟨s.toArray⟩] 9 (0, 0))) := (hkept.2 _ (.inl rfl)).trans HB.out
        have HM8 : Hid (w8.heap[bm]? = some (.cells #[.int .i64 most] 3 (0, 0))) := (hkept.2 _ (.inr rfl)).trans HM.out
        have HZ8 : Hid (W0.heap.size ≤ w8.heap.size) := Nat.le_trans HZ.out hkept.1
        have HJ8 := Lib.hid hj8
        clear hj8 hkept
        gi_wp2_with fail
        go_roundw
        case rel => exact ⟨k + 1, q, by omega, rfl, HEL.out.2.2, HB8, HM8, HZ8, HJ8⟩
        case measure => simp [intOf]; have := HQ.out; omega
    · obtain rfl : k = K := by omega
      obtain ⟨fy, ty, ay, by', hy, hR⟩ : YieldAt Fence.wide 0 Try.prog l #[oneV r q e] wr.drew _ := by
        have h1 := HYK.out wr.drew HJD.out HZ.out
        rw [HEL.out.1] at h1
        exact h1
      have HR := Lib.hid hR
      unfold oneV at hy
      clear hR
      gi_wp2_with fail
      refine wpIn_wide.2 ?_
      go_region_held3 (fun w' => w'.cell? ⟨bs, 0, none⟩ = some (.string ⟨s.toArray⟩) ∧ w'.cell? ⟨bm, 0, none⟩ = some (.int .i64 most)) (constructor <;> assumption) (first | (go_at_call 13; (with_reducible refine (HRD.out _).mono ?_); rintro e5 w5 ⟨rfl, rfl⟩) | fail)
      all_goals
        gi_wp2_with fail
        refine ⟨rfl, ?_⟩
        refine HR.out.mono ?_; rintro e8 w8 ⟨rfl, hx⟩
        gi_wp2_with fail
        refine bodyPost_ret (results_none rfl _ _ _) rfl ?_
        exact ⟨⟨_, rfl⟩, hx⟩
end Go.Proofs.Ytegcpedgdldodaa

/- The walk of the law ChainTorn. -/
import Derived.Test.YtdmoolfalcdbjaaDoorTornSome
namespace Go.Proofs.YtdmoolfalcdbjaaDoor
set_option linter.unusedVariables false
set_option linter.unusedSimpArgs false
open Go.RowKit Sha Chain
attribute [local go_sem] ByteArray.extract_mk

theorem isInts_nil {w : World} {u : Value} (h : IsInts w u []) : ∃ a cap, u = .slice a 0 cap ∧ cap ≤ maxLen := by
  rcases h with ⟨_, h⟩ | ⟨_, _, _, _, h, _⟩
  · exact h
  · simp at h
theorem isStrs_nil (w : World) (a : Option Addr) (cap : Nat) (h : cap ≤ maxLen) : IsStrs w (.slice a 0 cap) [] := .inl ⟨rfl, a, cap, rfl, h⟩
theorem scan_nil : scanR [] = ([], zlink, 0) := scan_whole [] rfl

set_option maxRecDepth 20000 in
set_option maxHeartbeats 4000000 in
theorem torn_none (w : World) (a : Option Addr) (cap : Nat) (hcap : cap ≤ maxLen) (c : Nat) (hc : c < 65536) (hk : KLaid w) :
    Calls Tryd.prog 4 #[.slice a 0 cap, .int .u16 c] w fun e w' => e = .returned (.bool true) ∧ Below w.heap.size w w' := by
  have HK := Lib.hid hk
  have HA := Lib.hid fun (W : World) (b : Below w.heap.size w W) => alive_any W (HK.out.below b)
  have HV := Lib.hid fun W => isStrs_nil W a cap hcap
  have HLG := Lib.hid (long_any _ [] w (HV.out w))
  have HF : Hid (framesR [] = ([], zlink, 0)) := rfl
  have HSN : Hid (scanR [] = ([], zlink, 0)) := scan_nil
  have HAW : Hid (auditR [] zlink = true) := by have := audit_whole [] rfl; exact this
  have ec : IntKind.i64.wrap (c : Int) = (c : Int) := by rw [IntWalk.i64_in _ (by omega)]
  have er : (c : Int).tmod 1 = 0 := Int.tmod_one _
  unfold maxLen at hcap
  have hyy : (zlink == zlink) = true := by simp
  have hyn : (zlink != zlink) = false := by simp
  have hz := zlink_length
  generalize zlink = y at *
  clear hk
  cases a
  all_goals
    go_enter Tryd.func4, Tryd.ntmps4
    go_wp2_with fail
    refine HLG.out.mono ?_; rintro e w1 ⟨rfl, rfl⟩
    go_wp2_with (refine wpList_append_copy (o := ⟨some 23, _, _, _, _, _⟩) rfl _ (.tmp 22) rfl rfl _ rfl [] (HV.out w) (by simp) ?_; intro v9 w9 hv9 b9; have HV9 := Lib.hid hv9; have B9 := Lib.hid b9; clear hv9 b9)
    refine (frames_at w9 HV9.out (HK.out.below B9.out) (by decide) HF.out).mono ?_; rintro e w10 ⟨rfl, b10⟩
    have B10 := Lib.hid (below_more B9.out b10 B9.out.size)
    clear b10
    go_wp2_with fail
    refine (ends_any _ [] w10 (HV.out w10) (by decide) (by simp)).mono ?_; rintro e w11 ⟨u, rfl, hu, b11⟩
    have B11 := Lib.hid (below_more B10.out b11 B10.out.size)
    clear b11
    obtain ⟨ua, ucap, rfl, hucap⟩ := isInts_nil hu
    clear hu
    go_wp2_with fail
    go_loop [10, 11] (fun x y => x = .int .i64 0 ∧ y = .int .i64 0) (fun _ _ => 0)
    case atStart => exact ⟨rfl, rfl⟩
    case round =>
      obtain ⟨rfl, rfl⟩ := hrel
      go_wp2_with fail
      refine (scan_at (by decide) HSN.out w11 (HK.out.below B11.out)).mono ?_; rintro e w12 ⟨lv, rfl, hlv, b12⟩
      have B12 := Lib.hid (below_more B11.out b12 B11.out.size)
      have HLV := Lib.hid hlv
      clear b12 hlv
      go_wp2_with (refine wpList_append_copy (o := ⟨some 96, _, _, _, _, _⟩) rfl _ (.tmp 95) rfl rfl _ rfl [] (by first | exact HV.out w12 | exact isStrs_nil _ _ _ (by unfold maxLen; omega)) (by simp) ?_; intro v13 w13 hv13 b13; have HV13 := Lib.hid hv13; have B13 := Lib.hid (below_more B12.out b13 B12.out.size); have HLV13 := Lib.hid (HLV.out.later b13); clear hv13 b13)
      refine (frames_at w13 HV13.out (HK.out.below B13.out) (by decide) HF.out).mono ?_; rintro e w14 ⟨rfl, b14⟩
      have B14 := Lib.hid (below_more B13.out b14 B13.out.size)
      have HLV14 := Lib.hid (HLV13.out.later b14)
      clear b14
      go_wp2_with fail
      refine (same_same _ _ [] w14 HLV14.out (by first | exact HV.out w14 | exact isStrs_nil _ _ _ (by unfold maxLen; omega))).mono ?_; rintro e w15 ⟨rfl, b15⟩
      have B15 := Lib.hid (below_more B14.out b15 B14.out.size)
      clear b15
      go_wp2_with fail
      refine (audit_at (s := []) (by decide) HAW.out w15 (HK.out.below B15.out)).mono ?_; rintro e w16 ⟨rfl, b16⟩
      have B16 := Lib.hid (below_more B15.out b16 B15.out.size)
      clear b16
      go_wp2_with fail
      refine (audit_at (s := []) (by decide) HAW.out w16 (HK.out.below B16.out)).mono ?_; rintro e w17 ⟨rfl, b17⟩
      have B17 := Lib.hid (below_more B16.out b17 B16.out.size)
      clear b17
      go_wp2_with fail
      refine (HA.out w17 B17.out).mono ?_; rintro e w18 ⟨rfl, b18⟩
      go_wp2_with fail
      go_ret
      exact ⟨rfl, below_more B17.out b18 B17.out.size⟩

set_option maxRecDepth 20000 in
set_option maxHeartbeats 4000000 in
theorem torn_long (w : World) (v : Value) (ls : List (List UInt8)) (hv : IsStrs w v ls) (c : Nat) (hc : c < 65536) (hk : KLaid w) (h : lng ls = true ∨ chk ls = 5) :
    Calls Tryd.prog 4 #[v, .int .u16 c] w fun e w' => e = .returned (.bool true) ∧ Below w.heap.size w w' := by
  have HK := Lib.hid hk
  have HV := Lib.hid hv
  have HA := Lib.hid fun (W : World) (b : Below w.heap.size w W) => alive_any W (HK.out.below b)
  have HLG := Lib.hid (long_any v ls w hv)
  clear hk hv
  cases hlg : lng ls with
  | true =>
    rw [hlg] at HLG
    go_enter Tryd.func4, Tryd.ntmps4
    go_wp2_with fail
    refine HLG.out.mono ?_; rintro e w1 ⟨rfl, rfl⟩
    go_wp2_with fail
    refine (HA.out w (Below.refl _ _)).mono ?_; rintro e w1 ⟨rfl, b1⟩
    go_wp2_with fail
    go_ret
    exact ⟨rfl, b1⟩
  | false =>
    rw [hlg] at HLG
    obtain ⟨t1, t2, t3⟩ := lng_false hlg
    have h5 : chk ls = 5 := by rcases h with h | h; rw [h] at hlg; cases hlg; exact h
    have HF : Hid (framesR ls = ([], [], 5)) := by show _ = _; unfold framesR; rw [if_neg (by omega)]
    have HTB : Hid (total ls + 41 * ls.length < 1000000000) := by show _ < _; omega
    clear h h5 hlg t3
    go_enter Tryd.func4, Tryd.ntmps4
    go_wp2_with fail
    refine HLG.out.mono ?_; rintro e w1 ⟨rfl, rfl⟩
    go_wp2_with (refine wpList_append_copy (o := ⟨some 23, _, _, _, _, _⟩) rfl _ (.tmp 22) rfl rfl _ rfl ls HV.out (by omega) ?_; intro v9 w9 hv9 b9; have HV9 := Lib.hid hv9; have B9 := Lib.hid b9; clear hv9 b9)
    refine (frames_at w9 HV9.out (HK.out.below B9.out) HTB.out HF.out).mono ?_; rintro e w10 ⟨rfl, b10⟩
    have B10 := Lib.hid (below_more B9.out b10 B9.out.size)
    clear b10
    go_wp2_with fail
    refine (HA.out w10 B10.out).mono ?_; rintro e w18 ⟨rfl, b18⟩
    go_wp2_with fail
    go_ret
    exact ⟨rfl, below_more B10.out b18 B10.out.size⟩

theorem law_ChainTorn (w : World) (v : Value) (ls : List (List UInt8)) (hv : IsStrs w v ls) (x : Int) (hx : (Lit.int .u16 x).wf = true) (hk : KLaid w) :
    Calls Tryd.prog 4 #[v, .int .u16 x] w fun e w' => e = .returned (.bool true) ∧ Below w.heap.size w w' := by
  obtain ⟨c, rfl, hc⟩ : ∃ c : Nat, x = c ∧ c < 65536 := by
    have := bounds_u16 hx
    exact ⟨x.toNat, by omega, by omega⟩
  cases hl : lng ls with
  | true => exact torn_long w v ls hv c hc hk (.inl hl)
  | false =>
    rcases chk_cases ls with h0 | h5
    · have hv' := hv
      rcases hv' with ⟨rfl, a, cap, rfl, hcap⟩ | ⟨b, off, cap, rfl, h1, _⟩
      · exact torn_none w a cap hcap c hc hk
      · exact torn_some w b off cap ls hv h1 c hc hk hl (all_of_chk h0)
    · exact torn_long w v ls hv c hc hk (.inr h5)
end Go.Proofs.YtdmoolfalcdbjaaDoor

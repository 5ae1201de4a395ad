/- The walk of the law ChainTorn over some records. -/
import Derived.Test.YtdmoolfalcdbjaaDoorTornAll
import Derived.OpenShut
namespace Go.Proofs.YtdmoolfalcdbjaaDoor
set_option linter.unusedVariables false
set_option linter.unusedSimpArgs false
open Go.RowKit Sha Chain
attribute [local go_sem] ByteArray.extract_mk

set_option maxRecDepth 20000 in
set_option maxHeartbeats 4000000 in
theorem torn_some (w : World) (b off cap : Nat) (ls : List (List UInt8)) (hv : IsStrs w (.slice (some ⟨b, off, none⟩) ls.length cap) ls) (h0 : 0 < ls.length) (c : Nat) (hc : c < 65536) (hk : KLaid w)
    (hl : lng ls = false) (hall : ls.all fits = true) :
    Calls Tryd.prog 4 #[.slice (some ⟨b, off, none⟩) ls.length cap, .int .u16 c] w fun e w' => e = .returned (.bool true) ∧ Below w.heap.size w w' := by
  have HK := Lib.hid hk
  have HA := Lib.hid fun (W : World) (b : Below w.heap.size w W) => alive_any W (HK.out.below b)
  have HV := Lib.hid hv
  have HLG := Lib.hid (long_any _ ls w hv)
  rw [hl] at HLG
  obtain ⟨t1, t2, t3⟩ := lng_false hl
  have HBIG := Lib.hid (fun x hx => Nat.lt_of_le_of_lt (t3 x hx) (by omega : 16384 < 1000000000))
  have HTB : Hid (total ls + 41 * ls.length < 1000000000) := by show _ < _; omega
  have hSle := framesL_le ls zlink
  have HF : Hid (framesR ls = (framesL zlink ls, headL zlink ls, 0)) := by
    show _ = _
    have := framesR_take hall ls.length
    rwa [List.take_length] at this
  have HAW : Hid (auditR (framesL zlink ls) (headL zlink ls) = true) := audit_whole ls hall
  have HTS := Lib.hid fun k j => torn_scan ls hall k j
  have HFT := Lib.hid fun j => framesR_take hall j
  have HFR := Lib.hid fun j => hv.front (j := j)
  have HLAST : Hid ((framesL zlink (ls.take ls.length)).length = (framesL zlink ls).length) := by show _ = _; rw [List.take_length]
  have HTTK := Lib.hid fun j => total_take ls j
  have HEG : Hid (∀ i (h : i < (endsTo ls ls.length).length), (endsTo ls ls.length)[i] = (framesL zlink (ls.take (i + 1))).length) := fun i h => endsTo_get _ _ _ _
  have HEL : Hid ((endsTo ls ls.length).length = ls.length) := endsTo_length _ _
  have hS1 : (framesL zlink ls).length < 100000 := by omega
  clear hk hv hl t3 hall t1 hSle
  obtain ⟨n, hn⟩ : ∃ n, n = ls.length := ⟨_, rfl⟩
  obtain ⟨S, hS⟩ : ∃ S, S = framesL zlink ls := ⟨_, rfl⟩
  have HS := Lib.hid hS
  have HN := Lib.hid hn
  obtain ⟨q, hq⟩ : ∃ q, q = headL zlink ls := ⟨_, rfl⟩
  rw [← hq, ← hS] at HF HAW
  rw [← hS] at hS1 HLAST
  rw [← hn] at HLG HV HTB HLAST HEG HEL h0 t2 ⊢
  obtain ⟨m, hm⟩ : ∃ m, n = m + 1 := ⟨n - 1, by omega⟩
  have em : IntKind.i64.wrap ((n : Int) - 1) = (m : Int) := by rw [IntWalk.i64_in _ (by omega)]; omega
  have em2 : (m : Int) < n := by omega
  have en : (0 : Int) < n := by omega
  have en0 : ((n : Int) == 0) = false := by rw [beq_eq_false_iff_ne]; omega
  obtain ⟨z, hz⟩ : ∃ z, z = S.length := ⟨_, rfl⟩
  have hz1 : z < 100000 := by omega
  have hsz : (⟨S.toArray⟩ : ByteArray).size = z := by simp [ByteArray.size]; omega
  have hsz2 : S.length = z := hz.symm
  have ez : IntKind.i64.wrap ((z : Int) + 1) = (z : Int) + 1 := by rw [IntWalk.i64_in _ (by omega)]
  have ez0 : ((z : Int) + 1 == 0) = false := by rw [beq_eq_false_iff_ne]; omega
  have ec : IntKind.i64.wrap (c : Int) = (c : Int) := by rw [IntWalk.i64_in _ (by omega)]
  obtain ⟨k, hk⟩ : ∃ k, k = c % (z + 1) := ⟨_, rfl⟩
  have er : (c : Int).tmod ((z : Int) + 1) = (k : Int) := by rw [mod_facts c z hc (by omega), hk]
  have hkz : k ≤ z := by have := Nat.mod_lt c (show 0 < z + 1 by omega); omega
  have ek : IntKind.i64.wrap (k : Int) = (k : Int) := by rw [IntWalk.i64_in _ (by omega)]
  have HM := Lib.hid hm
  clear hS hn hq hm hk hz
  go_enter Tryd.func4, Tryd.ntmps4
  go_wp2_with fail
  refine HLG.out.mono ?_; rintro e w1 ⟨rfl, rfl⟩
  go_wp2_with (refine wpList_append_copy (o := ⟨some 23, _, _, _, _, _⟩) rfl _ (.tmp 22) rfl rfl _ rfl ls HV.out (by rw [← HN.out]; omega) ?_; intro v9 w9 hv9 b9; have HV9 := Lib.hid hv9; have B9 := Lib.hid b9; clear hv9 b9)
  refine (frames_at w9 HV9.out (HK.out.below B9.out) (by rw [← HN.out]; exact HTB.out) HF.out).mono ?_; rintro e w10 ⟨rfl, b10⟩
  have B10 := Lib.hid (below_more B9.out b10 B9.out.size)
  clear b10
  go_wp2_with fail
  refine (ends_any _ ls w10 (HV.out.later B10.out) (by rw [← HN.out]; exact HTB.out) HBIG.out).mono ?_; rintro e w11 ⟨u, rfl, hu, b11⟩
  have B11 := Lib.hid (below_more B10.out b11 B10.out.size)
  clear b11
  rw [← HN.out] at hu
  rcases hu with ⟨h1, _⟩ | ⟨g, o, cp, rfl, _, hcp, hcm, hg, hcell⟩
  · have := HEL.out; rw [h1] at this; simp at this; omega
  unfold maxLen at hcm
  have HCE : Hid (∀ i, i < n → w11.cell? ⟨g, o + i, none⟩ = some (.int .i64 ((framesL zlink (ls.take (i + 1))).length : Nat))) := fun i hi => by
    have h3 := hcell i (by rw [HEL.out]; exact hi)
    rw [HEG.out] at h3
    exact h3
  rw [HEL.out] at hcp ⊢
  clear hcell
  have hcm' : w11.cell? ⟨g, o + m, none⟩ = some (.int .i64 (z : Nat)) := by
    rw [HCE.out m (by omega), ← HM.out, HLAST.out, hsz2]
  have ezz : ((z : Int) != z) = false := by simp
  go_wp2_with fail
  clear hcm'
  go_loop [10, 11] (fun x y => ∃ j p : Nat, j ≤ n ∧ x = .int .i64 j ∧ y = .int .i64 p ∧ Hid (p = (framesL zlink (ls.take j)).length) ∧ p ≤ k) (fun x _ => n + 1 - (intOf x).toNat)
  case atStart => exact ⟨0, 0, Nat.zero_le _, rfl, rfl, rfl, Nat.zero_le _⟩
  case round =>
    obtain ⟨j, p, hj, rfl, rfl, HP, hpk⟩ := hrel
    by_cases hgo : j < n ∧ (framesL zlink (ls.take (j + 1))).length ≤ k
    · obtain ⟨hjn, hek⟩ := hgo
      obtain ⟨x, hx⟩ : ∃ x, x = (framesL zlink (ls.take (j + 1))).length := ⟨_, rfl⟩
      have HX := Lib.hid hx
      have hcj : w11.cell? ⟨g, o + j, none⟩ = some (.int .i64 (x : Nat)) := by rw [HCE.out j hjn, hx]
      rw [← hx] at hek
      have hji : (j : Int) < n := by omega
      have hxk : (x : Int) ≤ k := by omega
      clear hx
      go_wp2_with fail
      go_round
      case rel => exact ⟨j + 1, x, by omega, by go_num, rfl, HX, hek⟩
      case measure => simp [intOf]; omega
    · have HST : Hid (scanR (S.take k) = (ls.take j, headL zlink (ls.take j), p)) := by
        show _ = _
        rw [HP.out, HS.out]
        refine HTS.out k j (by rw [← HN.out]; exact hj) (by rw [← HP.out]; exact hpk) (fun h => ?_) (by rw [← HS.out]; omega)
        rw [← HN.out] at h
        omega
      have HAT : Hid (auditR (S.take k) (headL zlink (ls.take j)) = (p == k)) := audit_torn HST.out (by omega)
      have HFJ : Hid (framesR (ls.take j) = (framesL zlink (ls.take j), headL zlink (ls.take j), 0)) := HFT.out j
      have HVJ : Hid (IsStrs w (.slice (some ⟨b, off, none⟩) j cap) (ls.take j)) := HFR.out j (by rw [← HN.out]; exact hj)
      have HTJ : Hid (total (ls.take j) + 41 * (ls.take j).length < 1000000000) := by
        show _ < _
        have h3 := HTTK.out j
        have h4 := HTB.out
        have h5 := HN.out
        rw [List.length_take]
        omega
      have hfl : (List.take k S).length = k := by rw [List.length_take]; omega
      have HFL : Hid ((List.take k S).length < 100000000) := by show _ < _; omega
      have k1 : (0 : Int) ≤ k := by omega
      have k2 : (k : Int) ≤ z := by omega
      have k3 : (j : Int) ≤ n := by omega
      have k4 : (n : Int) ≤ cap := by
        have h5 := HV.out
        rcases h5 with ⟨h6, _⟩ | ⟨_, _, _, h6, _, h7, _⟩
        · have := HN.out; rw [h6] at this; simp at this; omega
        · injection h6 with e1 e2 e3
          rw [e3, ← HN.out] at *
          omega
      have k5 : (j : Int) ≤ cap := by omega
      have k6 : j ≤ cap := by omega
      obtain ⟨f, hf⟩ : ∃ f, f = List.take k S := ⟨_, rfl⟩
      have hf2 := hf.symm
      rw [← hf] at HST HAT HFL
      obtain ⟨y, hy⟩ : ∃ y, y = headL zlink (ls.take j) := ⟨_, rfl⟩
      rw [← hy] at HST HAT HFJ
      have hyy : (y == y) = true := by simp
      have hyn : (y != y) = false := by simp
      have hpp : ((p : Int) != p) = false := by simp
      clear hf hy hfl
      have HE : Hid (∃ x : Bool, (p == k) = x ∧ ((p : Int) == k) = x) := ⟨_, rfl, by rw [Bool.eq_iff_iff, beq_iff_eq, beq_iff_eq]; omega⟩
      obtain ⟨x, hx1, hx2⟩ := HE.out
      rw [hx1] at HAT
      have hxx : ∀ x : Bool, (x == x) = true := fun x => by simp
      have HFS : Hid (S.length < 100000000) := by show _ < _; omega
      have hlt16 : ∀ l : List (List UInt8), l = ls.take j → l.length * 16 ≤ 140737488355328 := fun l h => by rw [h, List.length_take]; omega
      have HL16 := Lib.hid (hlt16 _ rfl)
      clear HE hlt16 hx1
      by_cases hjn : j < n
      obtain ⟨x3, hx3⟩ : ∃ x, x = (framesL zlink (ls.take (j + 1))).length := ⟨_, rfl⟩
      have hcj : w11.cell? ⟨g, o + j, none⟩ = some (.int .i64 (x3 : Nat)) := by rw [HCE.out j hjn, hx3]
      rw [← hx3] at hgo
      have hji : (j : Int) < n := by omega
      have hxk : (k : Int) < x3 := by omega
      have hxk2 : decide ((x3 : Int) ≤ k) = false := by rw [decide_eq_false_iff_not]; omega
      clear hx3 hgo
      go_wp2_with fail
      rotate_left
      have hji : decide ((j : Int) < n) = false := by rw [decide_eq_false_iff_not]; omega
      have hji2 : (n : Int) ≤ j := by omega
      clear hgo hjn
      go_wp2_with fail
      all_goals
        refine (scan_at HFL.out HST.out w11 (HK.out.below B11.out)).mono ?_; rintro e w12 ⟨lv, rfl, hlv, b12⟩
        have B12 := Lib.hid (below_more B11.out b12 B11.out.size)
        have HLV := Lib.hid hlv
        clear b12 hlv
        go_wp2_with (refine wpList_append_copy (o := ⟨some 96, _, _, _, _, _⟩) rfl _ (.tmp 95) rfl rfl _ rfl (ls.take j) (HVJ.out.later B12.out) HL16.out ?_; intro v13 w13 hv13 b13; have HV13 := Lib.hid hv13; have B13 := Lib.hid (below_more B12.out b13 B12.out.size); have HLV13 := Lib.hid (HLV.out.later b13); clear hv13 b13)
        refine (frames_at w13 HV13.out (HK.out.below B13.out) HTJ.out HFJ.out).mono ?_; rintro e w14 ⟨rfl, b14⟩
        have B14 := Lib.hid (below_more B13.out b14 B13.out.size)
        have HLV14 := Lib.hid (HLV13.out.later b14)
        clear b14
        go_wp2_with fail
        refine (same_same _ _ (ls.take j) w14 HLV14.out (HVJ.out.later B14.out)).mono ?_; rintro e w15 ⟨rfl, b15⟩
        have B15 := Lib.hid (below_more B14.out b15 B14.out.size)
        clear b15
        go_wp2_with fail
        refine (audit_at HFS.out HAW.out w15 (HK.out.below B15.out)).mono ?_; rintro e w16 ⟨rfl, b16⟩
        have B16 := Lib.hid (below_more B15.out b16 B15.out.size)
        clear b16
        go_wp2_with fail
        refine (audit_at HFL.out HAT.out w16 (HK.out.below B16.out)).mono ?_; rintro e w17 ⟨rfl, b17⟩
        have B17 := Lib.hid (below_more B16.out b17 B16.out.size)
        clear b17
        go_wp2_with fail
        refine (HA.out w17 B17.out).mono ?_; rintro e w18 ⟨rfl, b18⟩
        go_wp2_with fail
        go_ret
        exact ⟨rfl, below_more B17.out b18 B17.out.size⟩
end Go.Proofs.YtdmoolfalcdbjaaDoor

/- The walk of the law HmacReady. -/
import Derived.Test.YtkipemkclgamfaaDoorHmacAlive
import Derived.Test.YtkipemkclgamfaaDoorStrs
import Derived.Deep.RegionHeld3
namespace Go.Proofs.YtkipemkclgamfaaDoor
set_option linter.unusedVariables false
set_option linter.unusedSimpArgs false
open Go.RowKit Sha
attribute [local irreducible] Sha.hmac Sha.hexs Sha.sha

/-- a row of texts as IsStrs tells it, one form for all. -/
theorem IsStrs.at {w : World} {v : Value} {ls : List (List UInt8)} (h : IsStrs w v ls) : ∃ a cap, v = .slice a ls.length cap ∧ ls.length ≤ maxLen ∧ ∀ i (hi : i < ls.length), ∃ b off, a = some ⟨b, off, none⟩ ∧ b < w.heap.size ∧ w.cell? ⟨b, off + i, none⟩ = some (.string ⟨(ls[i]).toArray⟩) := by
  have hl := h.length_le
  rcases h with ⟨rfl, a, cap, rfl, _⟩ | ⟨b, off, cap, rfl, _, _, _, hb, hc⟩
  · exact ⟨a, cap, rfl, hl, fun i hi => absurd hi (Nat.not_lt_zero i)⟩
  · exact ⟨_, cap, rfl, hl, fun i hi => ⟨b, off, rfl, hb, hc i hi⟩⟩

set_option maxRecDepth 20000 in
set_option maxHeartbeats 4000000 in
theorem law_HmacReady (w : World) (key : List UInt8) (hkey : key.length ≤ maxLen) (v : Value) (ls : List (List UInt8)) (hv : IsStrs w v ls) (hk : KLaid w) :
    Calls Tryd.prog 5 #[.string ⟨key.toArray⟩, v] w fun e w' => e = .returned (.bool true) ∧ Below w.heap.size w w' := by
  obtain ⟨a, cap, rfl, hn, hs⟩ := hv.at
  have HK := Lib.hid hk
  have HS := Lib.hid hs
  clear hk hv hs hkey
  unfold maxLen at hn
  have key0 : ∀ (A B : Bool), A = decide ((4096 : Int) < (key.length : Int)) → B = decide ((30 : Int) < (ls.length : Int)) → (A || B) = true →
      Calls Tryd.prog 5 #[.string ⟨key.toArray⟩, .slice a ls.length cap] w fun e w' => e = .returned (.bool true) ∧ Below w.heap.size w w' := by
    intro A B hA hB hAB
    cases A <;> cases B <;> first | (cases hAB; done) | skip
    all_goals (
      replace hA := hA.symm
      replace hB := hB.symm
      go_enter Tryd.func5, Tryd.ntmps5
      go_wp2_with fail
      refine (alive_any w HK.out).mono ?_; rintro e w1 ⟨rfl, b1⟩
      go_wp2_with fail
      go_ret
      exact ⟨rfl, b1⟩)
  by_cases hl : 4096 < key.length ∨ 30 < ls.length
  · exact key0 _ _ rfl rfl (by simp only [Bool.or_eq_true, decide_eq_true_iff]; omega)
  · have l1 : decide ((4096 : Int) < (key.length : Int)) = false := by rw [decide_eq_false_iff_not]; omega
    have l2 : decide ((30 : Int) < (ls.length : Int)) = false := by rw [decide_eq_false_iff_not]; omega
    have m1 : key.length ≤ 4096 := by omega
    have m2 : ls.length ≤ 30 := by omega
    clear key0 hl
    go_enter Tryd.func5, Tryd.ntmps5
    go_wp2_with fail
    refine (newkey_any key w HK.out (by omega)).mono ?_; rintro e w1 ⟨b, rfl, hb, lb, b1⟩
    have B1 := Lib.hid b1
    have HKA := Lib.hid hb
    have HLB := Lib.hid lb
    clear hb lb b1
    go_wp2_with fail
    go_loop [6] (fun i => ∃ k : Nat, k ≤ ls.length ∧ i = .int .i64 k ∧ Hid (∀ j (h : j < ls.length), j < k → (ls[j]).length ≤ 4096)) (fun i => ls.length - (intOf i).toNat)
    case atStart => exact ⟨0, by omega, rfl, Lib.hid (fun j h h0 => by omega)⟩
    case round =>
      obtain ⟨k, hkn, rfl, HQ⟩ := hrel
      by_cases hlt : k < ls.length
      · obtain ⟨b2, off, rfl, hbl, hc⟩ := HS.out k hlt
        have hcw : w1.cell? ⟨b2, off + k, none⟩ = some (.string ⟨(ls[k]).toArray⟩) := (B1.out.cell (p := ⟨b2, off + k, none⟩) hbl).trans hc
        have hki : (k : Int) < ls.length := by omega
        clear hc hbl
        by_cases hA : 4096 < (ls[k]).length
        · have hA2 : (4096 : Int) < (ls[k]).length := by omega
          go_wp2_with fail
          refine (alive_any w1 (HK.out.below B1.out)).mono ?_; rintro e w5 ⟨rfl, b5⟩
          go_wp2_with fail
          go_ret
          exact ⟨rfl, below_more B1.out b5 B1.out.size⟩
        · have hA2 : ((ls[k]).length : Int) ≤ 4096 := by omega
          have HQ2 : Hid (∀ j (h : j < ls.length), j < k + 1 → (ls[j]).length ≤ 4096) := fun j h hj => by
            by_cases e : j = k
            · subst e; omega
            · exact HQ.out j h (by omega)
          go_wp2_with fail
          go_round
          case rel => exact ⟨k + 1, by omega, by go_num, HQ2⟩
          case measure => simp [intOf]; omega
      · obtain rfl : k = ls.length := by omega
        go_wp2_with fail
        go_loopw [7] (fun i wr => ∃ k : Nat, k ≤ ls.length ∧ i = .int .i64 k ∧ Hid (KeyAt wr b key) ∧ Hid (Below w.heap.size w wr)) (fun i _ => ls.length - (intOf i).toNat)
        case atStart => exact ⟨0, by omega, rfl, HKA, B1⟩
        case round =>
          obtain ⟨k, hkn, rfl, HKA2, HW⟩ := hrel
          by_cases hlt : k < ls.length
          · obtain ⟨b2, off, hae, hbl, hc⟩ := HS.out k hlt
            obtain ⟨b3, off3, hae3, hbl3, hc3⟩ := HS.out 0 (by omega)
            rw [hae] at hae3
            obtain ⟨rfl, rfl⟩ : b2 = b3 ∧ off = off3 := by
              have := Option.some.inj hae3
              simp only [Addr.mk.injEq] at this
              exact ⟨this.1, this.2.1⟩
            subst hae
            clear hae3 hbl3
            have hki : (k : Int) < ls.length := by omega
            have hki2 : (0 : Int) < ls.length := by omega
            have hkn2 : 0 < ls.length := by omega
            have HXL : Hid ((ls[k]).length < 1000000000) := by have := HQ.out k hlt (by omega); show _ < _; omega
            have HYL : Hid ((ls[0]).length < 1000000000) := by have := HQ.out 0 hkn2 (by omega); show _ < _; omega
            generalize ls[k] = x at *
            generalize ls[0] = y at *
            rw [Nat.add_zero] at hc3
            have HC := Lib.hid hc
            have HC3 := Lib.hid hc3
            have HBL := Lib.hid hbl
            have HCW : Hid (∀ W, Below w.heap.size w W → W.cell? ⟨b2, off + k, none⟩ = some (.string ⟨x.toArray⟩) ∧ W.cell? ⟨b2, off, none⟩ = some (.string ⟨y.toArray⟩)) := fun W hW => ⟨(hW.cell (p := ⟨b2, off + k, none⟩) HBL.out).trans HC.out, (hW.cell (p := ⟨b2, off, none⟩) HBL.out).trans HC3.out⟩
            have HKK : Hid (∀ W, Below w.heap.size w W → KLaid W) := fun W hW => HK.out.below hW
            have hd := HCW.out wr.drew HW.out.drew
            have hd1 := hd.1
            have hd2 := hd.2
            have HKD : Hid (KeyAt wr.drew b key) := HKA2.out.kept (fun j hj => rfl)
            have HKL : Hid (KLaid wr.drew) := HKK.out _ HW.out.drew
            have HWD : Hid (Below w.heap.size w wr.drew) := HW.out.drew
            have HKY : Hid (key.length < 1000000000) := by show _ < _; omega
            have e1 : (hmac key x != hmac key x) = false := by rw [bne_eq_false_iff_eq]
            have e2 : (hmac key y != hmac key y) = false := by rw [bne_eq_false_iff_eq]
            clear hc hc3 hbl hd
            go_wp2_with fail
            go_region_held3 (fun w' => w'.cell? ⟨b2, off + k, none⟩ = some (.string ⟨x.toArray⟩) ∧ w'.cell? ⟨b2, off, none⟩ = some (.string ⟨y.toArray⟩)) (constructor <;> assumption) (first | (go_at_call 9; (with_reducible refine (hmac_any key y _ (HKK.out _ BX3.out) HKY.out HYL.out).mono ?_); rintro e x4 ⟨rfl, bb⟩; have BX4 := Lib.hid (below_more BX3.out bb BX3.out.size); have KX4 := Lib.hid (KX3.out.below bb); obtain ⟨hx7, hx8⟩ := HCW.out x4 BX4.out; clear bb) | (go_at_call 11; (with_reducible refine (keysum_any b key y _ KX2.out (HKK.out _ BX2.out) HYL.out).mono ?_); rintro e x3 ⟨rfl, bb⟩; have BX3 := Lib.hid (below_more BX2.out bb BX2.out.size); have KX3 := Lib.hid (KX2.out.below bb); obtain ⟨hx5, hx6⟩ := HCW.out x3 BX3.out; clear bb) | (go_at_call 9; (with_reducible refine (hmac_any key x _ (HKK.out _ BX1.out) HKY.out HXL.out).mono ?_); rintro e x2 ⟨rfl, bb⟩; have BX2 := Lib.hid (below_more BX1.out bb BX1.out.size); have KX2 := Lib.hid (KX1.out.below bb); obtain ⟨hx3, hx4⟩ := HCW.out x2 BX2.out; clear bb) | (go_at_call 11; (with_reducible refine (keysum_any b key x _ HKD.out HKL.out HXL.out).mono ?_); rintro e x1 ⟨rfl, bb⟩; have BX1 := Lib.hid (below_more HWD.out bb HWD.out.size); have KX1 := Lib.hid (HKD.out.below bb); obtain ⟨hx1, hx2⟩ := HCW.out x1 BX1.out; clear bb) | fail)
            all_goals
              go_wp2_with fail
              go_roundw
              case rel => exact ⟨k + 1, by omega, by go_num, KX4, BX4⟩
              case measure => simp [intOf]; omega
          · go_wp2_with fail
            refine (alive_any wr (HK.out.below HW.out)).mono ?_; rintro e w5 ⟨rfl, b5⟩
            go_wp2_with fail
            go_ret
            exact ⟨rfl, below_more HW.out b5 HW.out.size⟩
end Go.Proofs.YtkipemkclgamfaaDoor

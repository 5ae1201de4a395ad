/- The walk of cipher's iterator over the stream. -/
import Derived.Test.YtjjdjdhkfmfchaaDoorCiphCnt
import Derived.Test.YtjjdjdhkfmfchaaDoorCiphW1
import Derived.Test.YtjjdjdhkfmfchaaDoorHeld
import Derived.Test.YtjjdjdhkfmfchaaDoorRange2
import Derived.Test.YtjjdjdhkfmfchaaDoorRowB
import Derived.Deep.RegionHeld3
import Derived.RangeFuncNested
import Derived.RangeFuncLeaves
import Derived.OwnWalkIn
import Derived.TacticsInMore
import Derived.LoopNIn
import Derived.LoopIn
namespace Go.Proofs.YtjjdjdhkfmfchaaDoor
set_option linter.unusedVariables false
set_option linter.unusedSimpArgs false
open Go.RowKit Sha Ciph
attribute [local go_sem] Oper.semAt_some ByteArray.extract_mk ByteArray.mk_append_mk

section
variable {P : Program} {ops : Array Oper} {Q : Exit → Act → World → Prop} {md : Region.Mode} {S : World → Prop}
/-- the one that may come up calls a function. -/
theorem held_call (i : Nat) {o : Oper} {fuel : Nat} {listed : Array Bool} {a : Act} {w w' : World} {f : FuncId} {args : Array Value} (hr0 : Region.ready md ops listed = [i]) (hi : ops[i]? = some o) (hgd : o.guard = none)
    (hr : (execOp a.eval o).run P w = .ok (.enter f args) w') (h : Calls P f args w' fun e w2 => ∃ v, e = .returned v ∧ S w2 ∧ wpAnyH P md ops Q S fuel (listed.setIfInBounds i true) (a.put o.dst v) w2) : wpAnyH P md ops Q S (fuel + 1) listed a w :=
  wpAnyH_all (rs := [i]) hr0 (by simp) fun j hj => by
    obtain rfl : j = i := by simpa using hj
    unfold wpOp
    simp only [hi]
    rw [if_pos (by simp [Region.wanted, hgd])]
    refine .inl ?_
    unfold Oper.wp
    rw [hr]
    refine Calls.mono h ?_
    rintro e w2 ⟨v, rfl, h1, h2⟩
    exact ⟨h1, h2⟩
end

/-- the number that a block of four bytes holds. -/
def ctrOf (w : World) (b : Nat) : Nat :=
  match w.heap[b]? with
  | some (.cells cs _ _) => (intOf (cs[0]?.getD undef)).toNat * 16777216 + (intOf (cs[1]?.getD undef)).toNat * 65536 + (intOf (cs[2]?.getD undef)).toNat * 256 + (intOf (cs[3]?.getD undef)).toNat
  | _ => 0
theorem ctrOf_be {w : World} {b q : Nat} {t : TypeId} {fr : Nat × Nat} (h : w.heap[b]? = some (.cells (brow (be 4 q)) t fr)) (hq : q < 4294967296) : ctrOf w b = q := by
  unfold ctrOf
  rw [h, be4]
  simp [brow, bcells, intOf, by8, UInt8.toNat_ofNat']
  omega
theorem zero_four : ∀ w, (zeroValue 53).run Tryd.prog w = .ok (.agg (brow (zrow 4))) w := fun w => by kernel_rfl
theorem be_zero : be 4 0 = zrow 4 := by decide
theorem eql_key (a : Nat) (W : World) : (Op.equalIn 9999 34 (.pointer (some ⟨a, 0, none⟩)) (.pointer none)).run Tryd.prog W = .ok false W := by kernel_rfl

/-- []byte(text), the run itself. -/
theorem run_bytes_row (w : World) (l : List UInt8) (hl : l.length ≤ 1099511627776) :
    ∃ cap w', (convert 9 31 (.string ⟨l.toArray⟩)).run Tryd.prog w = .ok (.slice (some ⟨w.heap.size, 0, none⟩) l.length cap) w' ∧ l.length ≤ cap ∧ cap ≤ maxLen ∧ RowB w' w.heap.size l ∧ w.grownBy w' none := by
  have hs : (ByteArray.mk l.toArray).size = l.length := by simp [ByteArray.size]
  have hr := Lib.run_convert_string_bytes (P := Tryd.prog) w 9 31 5 ⟨l.toArray⟩ Tryd.underlying9 Tryd.underlying31 Tryd.underlying5
  have hge := grownCap_ge w l.length 0 5
  have hsz : (Lib.bytesCells w 5 ⟨l.toArray⟩).size = grownCap w l.length 0 5 := by
    unfold Lib.bytesCells
    rw [Array.size_append, Array.size_map, Array.size_replicate, hs, show (ByteArray.mk l.toArray).data.size = l.length by simp]
    omega
  rw [hs] at hr
  refine ⟨_, Lib.bytesWorld w 5 ⟨l.toArray⟩, hr, hge, grownCap_le_maxLen w l.length 0 5 (by unfold maxLen; omega), ⟨_, _, Lib.bytesWorld_at_new w _ _, ?_, ?_, by rw [hsz]; exact hge⟩, ⟨rfl, rfl, rfl, by rw [Lib.bytesWorld_size]; omega, fun k hk _ => Lib.bytesWorld_at_old w _ _ k hk⟩⟩
  · intro j hj
    rw [hsz]
    simp only
    omega
  · unfold Lib.bytesCells
    rw [Array.toList_append, List.take_append_of_le_length (by simp), Array.toList_map, List.take_of_length_le (by simp)]
    rfl
/-- V's blocks lie in w as they lie in V. -/
def Same (V w : World) : Prop := V.heap.size ≤ w.heap.size ∧ ∀ j, j < V.heap.size → w.heap[j]? = V.heap[j]?

theorem by8_one (c : UInt8) : IntKind.u8.wrap (by8 c + 1) = by8 (c + 1) := by
  rw [IntKind.wrap_u8]
  unfold by8
  rw [UInt8.toNat_add]
  have : (1 : UInt8).toNat = 1 := rfl
  rw [this]
  omega
theorem by8_pos {c : UInt8} (h : c ≠ 0) : (0 : Int) < by8 c := by
  unfold by8
  have : c.toNat ≠ 0 := fun e => h (UInt8.toNat_inj.1 (by rw [e]; rfl))
  omega

set_option maxRecDepth 20000 in
set_option maxHeartbeats 4000000 in
theorem bytes_hands (a b2 pb nb K : Nat) (k nonce : List UInt8) (hn : nonce.length < 1000000) (hK : K < 1000000000) (V : World) (hV : KeyAt V a k) (hkV : KLaid V) (W0 : World)
    (hpb : W0.heap[pb]? = some (.cells (pairV a b2) 36 (0, 0))) (hnb : W0.heap[nb]? = some (.cells #[.string ⟨nonce.toArray⟩] 9 (0, 0))) (hVW : Same V W0) :
    HandsG Tryd.prog 29 #[.pointer (some ⟨pb, 0, none⟩), .pointer (some ⟨nb, 0, none⟩)] (fun i => #[.int .u8 (by8 (sb k nonce i))]) K (fun x => x < V.heap.size ∨ x = pb ∨ x = nb) W0 := by
  intro l J Jx hJ hY hYK h0
  have HJ := Lib.hid hJ
  have HY := Lib.hid hY
  have HYK := Lib.hid hYK
  have HKV := Lib.hid hkV
  have HV := Lib.hid hV
  have HPL := Lib.hid (lt_of_block hpb)
  have HNL := Lib.hid (lt_of_block hnb)
  have HVL : Hid (V.heap.size ≤ W0.heap.size) := hVW.1
  have HJ0 : Hid (J 0 (fun _ => False) (W0.alloc (.cells (brow (zrow 4)) 53))) := (hJ 0).alloc _ h0
  have HC0 : Hid ((W0.alloc (.cells (brow (zrow 4)) 53)).heap[W0.heap.size]? = some (.cells (brow (be 4 0)) 53 (0, 0))) := by show _ = _; rw [be_zero]; exact heap_alloc_new W0 _
  have HP0 : Hid ((W0.alloc (.cells (brow (zrow 4)) 53)).heap[pb]? = some (.cells (pairV a b2) 36 (0, 0))) := (heap_alloc_old W0 _ (lt_of_block hpb)).trans hpb
  have HN0 : Hid ((W0.alloc (.cells (brow (zrow 4)) 53)).heap[nb]? = some (.cells #[.string ⟨nonce.toArray⟩] 9 (0, 0))) := (heap_alloc_old W0 _ (lt_of_block hnb)).trans hnb
  have HS0 : Hid (Same V (W0.alloc (.cells (brow (zrow 4)) 53))) := ⟨by have := hVW.1; simp; omega, fun j hj => (heap_alloc_old W0 _ (by have := hVW.1; omega)).trans (hVW.2 j hj)⟩
  have HPB := Lib.hid hpb
  clear hJ hY hYK hkV hV hpb hnb hVW h0
  refine callsIn_of_wp Tryd.func29 rfl trivial ?_ rfl
  simp only [Tryd.ntmps29, List.size_toArray, List.length_cons, List.length_nil, Nat.reduceAdd, Nat.reduceSub, Array.replicate_succ, Array.replicate_zero, List.push_toArray, List.append_toArray, List.nil_append, List.cons_append]
  have hp1 : W0.cell? ⟨pb, 0, none⟩ = some (.pointer (some ⟨a, 0, none⟩)) := by rw [cell_of_row _ _ _ _ _ _ HPB.out]; rfl
  have hp2 : W0.cell? ⟨pb, 1, none⟩ = some (.pointer (some ⟨b2, 0, none⟩)) := by rw [cell_of_row _ _ _ _ _ _ HPB.out]; rfl
  have heq := eql_key a
  gi_wp2_with fail
  clear hp1 hp2 heq
  gi_loopw [7] (fun i wr => ∃ q : Nat, 32 * q ≤ K ∧ Hid (wr.heap[W0.heap.size]? = some (.cells (brow (be 4 q)) 53 (0, 0))) ∧ Hid (wr.heap[pb]? = some (.cells (pairV a b2) 36 (0, 0))) ∧ Hid (wr.heap[nb]? = some (.cells #[.string ⟨nonce.toArray⟩] 9 (0, 0))) ∧ Hid (Same V wr) ∧ ∃ G, Hid (J (32 * q) G wr) ∧ Hid (∀ b, G b → W0.heap.size < b ∧ b < wr.heap.size)) (fun _ wr => K + 32 - 32 * ctrOf wr W0.heap.size)
  case atStart => exact ⟨0, Nat.zero_le _, HC0, HP0, HN0, HS0, _, HJ0, Lib.hid (fun b h => h.elim)⟩
  case round =>
    obtain ⟨q, hq, HC, HP, HN, HS, G, HJW, HG⟩ := hrel
    have HLL := Lib.hid (lt_of_block HC.out)
    have HCTR : Hid (ctrOf wr W0.heap.size = q) := ctrOf_be HC.out (by omega)
    gi_wp2_with fail
    refine wpIn_wide.2 ?_
    have hbl : (be 4 q).length = 4 := be_length 4 q
    have hl4 : (nonce ++ be 4 q).length < 1000000000 := by rw [List.length_append, hbl]; omega
    have z1 : nonce.length ≤ 1000000 := by omega
    have z2 : (be 4 q).length ≤ 4 := by omega
    have z3 : nonce.length ≤ 9223372036854775803 := by omega
    refine wp_region_held_drew (S := fun w' => w'.heap[pb]? = some (.cells (pairV a b2) 36 (0, 0)) ∧ w'.heap[nb]? = some (.cells #[.string ⟨nonce.toArray⟩] 9 (0, 0)) ∧ w'.heap[W0.heap.size]? = some (.cells (brow (be 4 q)) 53 (0, 0))) (by kernel_rfl) ⟨HP.out, HN.out, HC.out⟩ (fun hS => ?_)
    refine held_take 0 (.pointer (some ⟨pb, 0, none⟩)) (oi := ⟨some 11, _, _, _, _, _⟩) rfl (by kernel_rfl) (by kernel_rfl) (by kernel_rfl) rfl (fun _ _ _ h => h) (by intro w' hSw; go_simp) hS ?_
    simp only [Act.put, List.setIfInBounds_toArray, List.set_cons_zero, List.set_cons_succ]
    refine held_take 1 (.pointer (some ⟨a, 0, none⟩)) (oi := ⟨some 12, _, _, _, _, _⟩) rfl (by kernel_rfl) (by kernel_rfl) (by kernel_rfl) rfl (fun _ _ _ h => h) (by
      intro w' hSw
      have : w'.cell? ⟨pb, 0, none⟩ = some (.pointer (some ⟨a, 0, none⟩)) := by rw [cell_of_row _ _ _ _ _ _ hSw.1]; rfl
      clear hSw
      go_simp) hS ?_
    simp only [Act.put, List.setIfInBounds_toArray, List.set_cons_zero, List.set_cons_succ]
    refine held_take 2 (.string ⟨nonce.toArray⟩) (oi := ⟨some 13, _, _, _, _, _⟩) rfl (by kernel_rfl) (by kernel_rfl) (by kernel_rfl) rfl (fun _ _ _ h => h) (by
      intro w' hSw
      have : w'.cell? ⟨nb, 0, none⟩ = some (.string ⟨nonce.toArray⟩) := by rw [cell_of_row _ _ _ _ _ _ hSw.2.1]; rfl
      clear hSw
      go_simp) hS ?_
    simp only [Act.put, List.setIfInBounds_toArray, List.set_cons_zero, List.set_cons_succ]
    refine held_take 3 (.slice (some ⟨W0.heap.size, 0, none⟩) 4 4) (oi := ⟨some 14, _, _, _, _, _⟩) rfl (by kernel_rfl) (by kernel_rfl) (by kernel_rfl) rfl (fun _ _ _ h => h) (by intro w' hSw; clear hSw; go_simp) hS ?_
    simp only [Act.put, List.setIfInBounds_toArray, List.set_cons_zero, List.set_cons_succ]
    refine held_take 4 (.string ⟨(be 4 q).toArray⟩) (oi := ⟨some 15, _, _, _, _, _⟩) rfl (by kernel_rfl) (by kernel_rfl) (by kernel_rfl) rfl (fun _ _ _ h => h) (by
      intro w' hSw
      have : (convert 31 9 (.slice (some ⟨W0.heap.size, 0, none⟩) 4 4)).run Tryd.prog w' = .ok (.string ⟨(be 4 q).toArray⟩) w' := conv_brow hbl hSw.2.2
      clear hSw
      go_simp) hS ?_
    simp only [Act.put, List.setIfInBounds_toArray, List.set_cons_zero, List.set_cons_succ]
    refine held_take 5 (.string ⟨(nonce ++ be 4 q).toArray⟩) (oi := ⟨some 16, _, _, _, _, _⟩) rfl (by kernel_rfl) (by kernel_rfl) (by kernel_rfl) rfl (fun _ _ _ h => h) (by
      intro w' hSw
      clear hSw
      go_simp) hS ?_
    simp only [Act.put, List.setIfInBounds_toArray, List.set_cons_zero, List.set_cons_succ]
    refine held_take 9 (.int .i64 0) (oi := ⟨some 20, _, _, _, _, _⟩) rfl (by kernel_rfl) (by kernel_rfl) (by kernel_rfl) rfl (fun _ _ _ h => h) (by intro w' hSw; clear hSw; go_simp) hS ?_
    simp only [Act.put, List.setIfInBounds_toArray, List.set_cons_zero, List.set_cons_succ]
    refine held_call 6 (o := ⟨some 17, _, _, _, _, _⟩) (f := 16) (args := #[.pointer (some ⟨a, 0, none⟩), .string ⟨(nonce ++ be 4 q).toArray⟩]) (w' := wr.drew) (by kernel_rfl) rfl rfl (by kernel_rfl) ?_
    refine (keysum_any a k (nonce ++ be 4 q) wr.drew (HV.out.kept (fun j hj => HS.out.2 j hj)) (HKV.out.kept (HS.out.2 _ HKV.out.lt)) hl4).mono ?_; rintro e w5 ⟨rfl, b5⟩
    replace b5 := (Below.refl wr.heap.size wr).drew.trans b5
    have hS5 : w5.heap[pb]? = some (.cells (pairV a b2) 36 (0, 0)) ∧ w5.heap[nb]? = some (.cells #[.string ⟨nonce.toArray⟩] 9 (0, 0)) ∧ w5.heap[W0.heap.size]? = some (.cells (brow (be 4 q)) 53 (0, 0)) := ⟨(b5.block _ (lt_of_block HP.out)).trans HP.out, (b5.block _ (lt_of_block HN.out)).trans HN.out, (b5.block _ HLL.out).trans HC.out⟩
    refine ⟨_, rfl, hS5, ?_⟩
    simp only [Act.put, List.setIfInBounds_toArray, List.set_cons_zero, List.set_cons_succ]
    obtain ⟨pt, hpt⟩ : ∃ pt, pt = hmac k (nonce ++ be 4 q) := ⟨_, rfl⟩
    have hpl : pt.length = 32 := by rw [hpt]; exact hmac_length _ _
    obtain ⟨cap, w6, hr6, hc1, hc2, hrow, hg6⟩ := run_bytes_row w5 pt (by omega)
    rw [← hpt]
    have HPT := Lib.hid hpt
    clear hpt
    have hS6 : w6.heap[pb]? = some (.cells (pairV a b2) 36 (0, 0)) ∧ w6.heap[nb]? = some (.cells #[.string ⟨nonce.toArray⟩] 9 (0, 0)) ∧ w6.heap[W0.heap.size]? = some (.cells (brow (be 4 q)) 53 (0, 0)) := ⟨(hg6.block _ (lt_of_block hS5.1) (by simp)).trans hS5.1, (hg6.block _ (lt_of_block hS5.2.1) (by simp)).trans hS5.2.1, (hg6.block _ (lt_of_block hS5.2.2) (by simp)).trans hS5.2.2⟩
    refine held_value 7 (o := ⟨some 18, _, _, _, _, _⟩) (v := .slice (some ⟨w5.heap.size, 0, none⟩) pt.length cap) (w' := w6) (by kernel_rfl) rfl rfl (by go_simp) hS6 ?_
    simp only [Act.put, List.setIfInBounds_toArray, List.set_cons_zero, List.set_cons_succ]
    rw [hpl]
    refine held_value 8 (o := ⟨some 19, _, _, _, _, _⟩) (v := .int .i64 32) (w' := w6) (by kernel_rfl) rfl rfl (by go_simp) hS6 ?_
    simp only [Act.put, List.setIfInBounds_toArray, List.set_cons_zero, List.set_cons_succ]
    refine wpAnyH_done (by kernel_rfl) ?_ _
    obtain ⟨g, hg⟩ : ∃ g, g = w5.heap.size := ⟨_, rfl⟩
    rw [← hg] at hrow ⊢
    have HGL : Hid (W0.heap.size < g) := by show _ < _; rw [hg]; exact Nat.lt_of_lt_of_le HLL.out b5.size
    have HC6 := Lib.hid hS6.2.2
    have HP6 := Lib.hid hS6.1
    have HN6 := Lib.hid hS6.2.1
    have HR6 := Lib.hid hrow
    have HSV6 : Hid (Same V w6) := ⟨Nat.le_trans (Nat.le_trans HS.out.1 b5.size) hg6.size, fun j hj => (hg6.block j (Nat.lt_of_lt_of_le hj (Nat.le_trans HS.out.1 b5.size)) (by simp)).trans ((b5.block j (Nat.lt_of_lt_of_le hj HS.out.1)).trans (HS.out.2 j hj))⟩
    obtain ⟨G6, hG6⟩ : ∃ G6 : Nat → Prop, G6 = fun b => G b ∨ (w5.heap.size ≤ b ∧ b < w6.heap.size) := ⟨_, rfl⟩
    have HJ6 : Hid (J (32 * q) G6 w6) := by
      have h1 : J (32 * q) G w5 := (HJ.out (32 * q)).turn G _ _ none HJW.out ⟨b5.os, b5.tape, b5.output, b5.size, fun j hj _ => b5.block j hj⟩ (fun r e => by cases e)
      rw [hG6]
      exact (HJ.out (32 * q)).lay G _ _ h1 hg6
    have HG6 : Hid (∀ b, G6 b → W0.heap.size < b ∧ b < w6.heap.size) := by
      intro b h
      rw [hG6] at h
      rcases h with h | h
      · have h1 := HG.out b h; have := b5.size; have := hg6.size; exact ⟨h1.1, by omega⟩
      · have := HGL.out; rw [hg] at this; exact ⟨by omega, h.2⟩
    have HGG : Hid (G6 g) := by show G6 g; rw [hG6]; exact .inr ⟨Nat.le_of_eq hg.symm, HR6.out.lt⟩
    clear hG6
    clear hS hS5 hS6 hr6 hg6 b5 hrow hg HJW HG HC HP HN HS
    have HPT2 : Hid (∀ j (h : j < pt.length), sb k nonce (32 * q + j) = pt[j]) := by
      intro j h
      have h2 := sb_at k nonce q j (by omega)
      rw [h2]
      congr 1
      rw [HPT.out]; rfl
    have HCQ : Hid (ctrOf wr W0.heap.size = q) := HCTR.out
    clear HCTR
    gi_wp2_with fail
    obtain ⟨wo, hwo⟩ : ∃ wo : World, wo = wr := ⟨_, rfl⟩
    rw [← hwo] at HCQ
    gi_loopw [20] (fun i wr2 => ∃ j m : Nat, Hid (m = 32 * q + j) ∧ j ≤ 32 ∧ m ≤ K ∧ i = .int .i64 j ∧ Hid (wr2.heap[W0.heap.size]? = some (.cells (brow (be 4 q)) 53 (0, 0))) ∧ Hid (wr2.heap[pb]? = some (.cells (pairV a b2) 36 (0, 0))) ∧ Hid (wr2.heap[nb]? = some (.cells #[.string ⟨nonce.toArray⟩] 9 (0, 0))) ∧ Hid (Same V wr2) ∧ Hid (RowB wr2 g pt) ∧ Hid (J m G6 wr2) ∧ Hid (∀ b, G6 b → W0.heap.size < b ∧ b < wr2.heap.size)) (fun i _ => 32 - (intOf i).toNat)
    case atStart => exact ⟨0, 32 * q, rfl, by omega, hq, rfl, HC6, HP6, HN6, HSV6, HR6, HJ6, HG6⟩
    case round =>
      obtain ⟨j, m, HM, hj, hm, rfl, HC7, HP7, HN7, HS7, HR7, HJ7, HG7⟩ := hrel
      have HLL7 := Lib.hid (lt_of_block HC7.out)
      by_cases hj32 : j < 32
      · have hji : (j : Int) < 32 := by omega
        have hcj : wr.cell? ⟨g, j, none⟩ = some (.int .u8 (by8 (pt[j]'(by omega)))) := HR7.out.cell j (by omega)
        have hel := HPT2.out j (by omega)
        have hgj : (0 : Int) ≤ j := by omega
        rw [← HM.out] at hel
        obtain ⟨c, hc⟩ : ∃ c, c = pt[j]'(by omega) := ⟨_, rfl⟩
        rw [← hc] at hcj hel
        clear hc
        by_cases hmK : m < K
        · obtain ⟨fy, ty, ay, by', hy, hR⟩ : YieldAt Fence.wide 0 Tryd.prog l #[.int .u8 (by8 c)] wr _ := by
            have h1 := HY.out m G6 wr hmK HJ7.out HLL7.out
            rw [hel] at h1
            exact h1
          have HR := Lib.hid hR
          have HMK := Lib.hid hmK
          clear hR hel
          gi_wp2_with fail
          refine ⟨rfl, ?_⟩
          refine HR.out.mono ?_; rintro e w8 ⟨rfl, hj8, hkept⟩
          have HC8 : Hid (w8.heap[W0.heap.size]? = some (.cells (brow (be 4 q)) 53 (0, 0))) := (hkept.2 _ (.inr (.inl rfl))).trans HC7.out
          have HP8 : Hid (w8.heap[pb]? = some (.cells (pairV a b2) 36 (0, 0))) := (hkept.2 _ (.inl (.inr (.inl rfl)))).trans HP7.out
          have HN8 : Hid (w8.heap[nb]? = some (.cells #[.string ⟨nonce.toArray⟩] 9 (0, 0))) := (hkept.2 _ (.inl (.inr (.inr rfl)))).trans HN7.out
          have HS8 : Hid (Same V w8) := ⟨Nat.le_trans HS7.out.1 hkept.1, fun j hj => (hkept.2 j (.inl (.inl hj))).trans (HS7.out.2 j hj)⟩
          have HR8 : Hid (RowB w8 g pt) := HR7.out.kept (hkept.2 _ (.inr (.inr HGG.out)))
          have HG8 : Hid (∀ b, G6 b → W0.heap.size < b ∧ b < w8.heap.size) := fun b h => ⟨(HG7.out b h).1, Nat.lt_of_lt_of_le (HG7.out b h).2 hkept.1⟩
          have HJ8 := Lib.hid hj8
          clear hj8 hkept
          gi_wp2_with fail
          go_roundw
          case rel => exact ⟨j + 1, m + 1, Lib.hid (by rw [HM.out]; omega), by omega, HMK.out, by go_num, HC8, HP8, HN8, HS8, HR8, HJ8, HG8⟩
          case measure => simp [intOf]; omega
        · obtain rfl : m = K := by omega
          obtain ⟨fy, ty, ay, by', hy, hR⟩ : YieldAt Fence.wide 0 Tryd.prog l #[.int .u8 (by8 c)] wr _ := by
            have h1 := HYK.out G6 wr HJ7.out HLL7.out
            rw [hel] at h1
            exact h1
          have HR := Lib.hid hR
          clear hR hel hmK
          gi_wp2_with fail
          refine ⟨rfl, ?_⟩
          refine HR.out.mono ?_; rintro e w8 ⟨rfl, hx⟩
          gi_wp2_with fail
          refine bodyPost_ret (results_none rfl _ _ _) rfl ?_
          exact ⟨⟨_, rfl⟩, hx⟩
      · obtain rfl : j = 32 := by omega
        clear hj32
        gi_wp2_with fail
        have hmq : m = 32 * (q + 1) := by have := HM.out; omega
        subst hmq
        have HA4 : Hid (wr.heap[W0.heap.size]? = some (.cells (brow (atL q 4)) 53 (0, 0))) := by show _ = _; rw [atL_four]; exact HC7.out
        gi_loopw [7] (fun i wr3 => ∃ kk : Nat, kk ≤ 4 ∧ i = .int .i64 ((kk : Int) - 1) ∧ Hid (carry q kk) ∧ Hid (wr3.heap[W0.heap.size]? = some (.cells (brow (atL q kk)) 53 (0, 0))) ∧ Hid (wr3.heap[pb]? = some (.cells (pairV a b2) 36 (0, 0))) ∧ Hid (wr3.heap[nb]? = some (.cells #[.string ⟨nonce.toArray⟩] 9 (0, 0))) ∧ Hid (Same V wr3) ∧ Hid (J (32 * (q + 1)) G6 wr3) ∧ Hid (∀ b, G6 b → W0.heap.size < b ∧ b < wr3.heap.size)) (fun i _ => (intOf i + 1).toNat)
        case atStart => exact ⟨4, by omega, rfl, trivial, HA4, HP7, HN7, HS7, HJ7, HG7⟩
        case round =>
          obtain ⟨kk, hkk, rfl, HCA, HA, HP8, HN8, HS8, HJ8, HG8⟩ := hrel
          have HLL8 := Lib.hid (lt_of_block HA.out)
          cases kk with
          | zero =>
            have HEND : Hid (wr.heap[W0.heap.size]? = some (.cells (brow (be 4 (q + 1))) 53 (0, 0))) := by
              show _ = _
              rw [← atL_none q HCA.out]
              exact HA.out
            gi_wp2_with fail
            go_roundw
            case rel => exact ⟨q + 1, hm, HEND, HP8, HN8, HS8, G6, HJ8, HG8⟩
            case measure => rw [ctrOf_be HEND.out (by omega), ← hwo, HCQ.out]; omega
          | succ x =>
            have hx4 : x < 4 := by omega
            have hx : (x : Int) < 4 := by omega
            have hx0 : (0 : Int) ≤ x := by omega
            have e0 : (((x + 1 : Nat) : Int) - 1) = (x : Int) := by omega
            rw [e0]
            obtain ⟨c, hc⟩ : ∃ c, c = (atL q (x + 1))[x]'(by rw [atL_length]; exact hx4) := ⟨_, rfl⟩
            have hcell : wr.cell? ⟨W0.heap.size, x, none⟩ = some (.int .u8 (by8 c)) := by rw [hc]; exact brow_cell HA.out x (by rw [atL_length]; exact hx4)
            have hfro : wr.frozen? ⟨W0.heap.size, x, none⟩ = false := frozen_of_row _ _ _ _ _ HA.out
            have hadd : IntKind.u8.wrap (by8 c + 1) = by8 (c + 1) := by8_one c
            have HSET : Hid ((wr.setCell ⟨W0.heap.size, x, none⟩ (.int .u8 (by8 (c + 1)))).heap[W0.heap.size]? = some (.cells (brow ((atL q (x + 1)).set x (c + 1))) 53 (0, 0))) := brow_setCell HA.out x (c + 1)
            have HP9 : Hid ((wr.setCell ⟨W0.heap.size, x, none⟩ (.int .u8 (by8 (c + 1)))).heap[pb]? = some (.cells (pairV a b2) 36 (0, 0))) := by
              show _ = _; rw [heap_setCell_other _ _ _ _ (by have := HPL.out; simp; omega)]; exact HP8.out
            have HN9 : Hid ((wr.setCell ⟨W0.heap.size, x, none⟩ (.int .u8 (by8 (c + 1)))).heap[nb]? = some (.cells #[.string ⟨nonce.toArray⟩] 9 (0, 0))) := by
              show _ = _; rw [heap_setCell_other _ _ _ _ (by have := HNL.out; simp; omega)]; exact HN8.out
            have HS9 : Hid (Same V (wr.setCell ⟨W0.heap.size, x, none⟩ (.int .u8 (by8 (c + 1))))) := ⟨by have := HS8.out.1; simpa using this, fun j hj => by rw [heap_setCell_other _ _ _ _ (by have := HVL.out; simp; omega)]; exact HS8.out.2 j hj⟩
            have HJ9 : Hid (J (32 * (q + 1)) G6 (wr.setCell ⟨W0.heap.size, x, none⟩ (.int .u8 (by8 (c + 1))))) :=
              (HJ.out _).turn G6 _ _ (some W0.heap.size) HJ8.out ⟨rfl, rfl, rfl, by simp, fun j hj hne => heap_setCell_other _ _ _ _ (fun e => hne (by rw [e]))⟩ (fun r e => .inl (by cases e; omega))
            have HG9 : Hid (∀ b, G6 b → W0.heap.size < b ∧ b < (wr.setCell ⟨W0.heap.size, x, none⟩ (.int .u8 (by8 (c + 1)))).heap.size) := fun b h => by have := HG8.out b h; simpa using this
            by_cases hz : c + 1 = 0
            · have HON : Hid ((atL q (x + 1)).set x (c + 1) = atL q x ∧ carry q x) := by show _ ∧ _; rw [hc]; exact atL_on q x hx4 HCA.out (by rw [← hc]; exact hz)
              have hz0 : by8 (c + 1) = 0 := by rw [hz]; rfl
              rw [HON.out.1] at HSET
              have HCX := Lib.hid HON.out.2
              rw [hz0] at HSET HP9 HN9 HS9 HJ9 HG9
              clear hc hz HON
              gi_wp2_with fail
              go_roundw
              case rel => exact ⟨x, by omega, by go_num, HCX, HSET, HP9, HN9, HS9, HJ9, HG9⟩
              case measure => simp [intOf]
            · have HOFF : Hid ((atL q (x + 1)).set x (c + 1) = be 4 (q + 1)) := by show _ = _; rw [hc]; exact atL_stop q x hx4 HCA.out (by rw [← hc]; exact hz)
              have hz0 : (0 : Int) < by8 (c + 1) := by8_pos hz
              rw [HOFF.out] at HSET
              clear hc hz HOFF
              gi_wp2_with fail
              go_roundw
              case rel => exact ⟨q + 1, hm, HSET, HP9, HN9, HS9, G6, HJ9, HG9⟩
              case measure => rw [ctrOf_be HSET.out (by omega), ← hwo, HCQ.out]; omega
end Go.Proofs.YtjjdjdhkfmfchaaDoor

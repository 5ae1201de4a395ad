/- The walks of cipher's Seal and Open. -/
import Derived.Test.YtjjdjdhkfmfchaaDoorCiphW2
import Derived.Test.YtjjdjdhkfmfchaaDoorCiphR2
import Derived.Deep.RegionHeld3
namespace Go.Proofs.YtjjdjdhkfmfchaaDoor
set_option linter.unusedVariables false
set_option linter.unusedSimpArgs false
open Go.RowKit Sha Ciph
attribute [local go_sem] ByteArray.mk_append_mk ByteArray.extract_mk

theorem exec_load_row {P : Program} {o : Oper} {a : Act} {w : World} (ty : TypeId) (x : Operand) (ho : o.op = .load ty x)
    (g : Nat) (hx : a.eval x = .pointer (some ⟨g, 0, none⟩)) (t : TypeId) (cs : Array Value) (fr : Nat × Nat) (d : TypeDesc) (hg : w.heap[g]? = some (.cells cs t fr))
    (hu : P.underlying ty = some d) (hd : (match d with | .struct _ | .array _ _ => true | _ => false) = true) (hi : (P.info? ty).map (·.size) = some cs.size) : (execOp a.eval o).run P w = .ok (.value (.agg cs)) w := by
  unfold execOp
  simp only [ho, hx, Instr.loadAt, Instr.sureAddr, Sem.run_bind, Sem.run_pure, Result.andThen_ok, run_loadVar_row w g t ty cs fr d hg hu hd hi]

set_option maxRecDepth 20000 in
set_option maxHeartbeats 4000000 in
theorem cseal_any (key nonce s : List UInt8) (hk : key.length < 1000000) (hn : nonce.length < 1000000000) (hs : s.length < 1000000000) (w : World) (hkl : KLaid w) :
    Calls Tryd.prog 9 #[.string ⟨key.toArray⟩, .string ⟨nonce.toArray⟩, .string ⟨s.toArray⟩] w fun e w' => e = .returned (tup2 (sealR key nonce s)) ∧ Below w.heap.size w w' := by
  have HK := Lib.hid hkl
  clear hkl
  by_cases h12 : nonce.length = 12
  · have n1 : ((nonce.length : Int) != 12) = false := by rw [bne_eq_false_iff_eq]; omega
    have n2 : (nonce.length != 12) = false := by rw [bne_eq_false_iff_eq]; exact h12
    by_cases hl : 65536 < s.length
    · have hl1 : (65536 : Int) < s.length := by omega
      have HF : Hid (sealR key nonce s = ([], 5)) := by show _ = _; unfold sealR; rw [if_neg (by omega), if_pos hl]
      clear h12 hl
      go_enter Tryd.func9, Tryd.ntmps9
      go_wp2_with fail
      go_ret2
      exact ⟨congrArg (fun p => Ending.returned (tup2 p)) HF.out.symm, Below.refl _ _⟩
    · have hl1 : (s.length : Int) ≤ 65536 := by omega
      have HF : Hid (sealR key nonce s = (hidden key nonce s ++ tagOf key (hidden key nonce s), 0)) := by show _ = _; unfold sealR; rw [if_neg (by omega), if_neg hl]; rfl
      have HHL := Lib.hid (hidden_length key nonce s)
      have HH : Hid (hidden key nonce s = nonce ++ strm (strK key) nonce s) := rfl
      have HX : Hid (∀ (a b : Nat) (W : World), KLaid W → KeyAt W a (strK key) → Calls Tryd.prog 15 #[.agg (pairV a b), .string ⟨nonce.toArray⟩, .string ⟨s.toArray⟩] W fun e w' => e = .returned (.string ⟨(strm (strK key) nonce s).toArray⟩) ∧ Below W.heap.size W w') :=
        fun a b W h1 h2 => turned_any a b (strK key) nonce s (by omega) (by omega) W h1 h2
      have HT : Hid (∀ (b : Nat) (W : World), KLaid W → KeyAt W b (tagK key) → Calls Tryd.prog 16 #[.pointer (some ⟨b, 0, none⟩), .string ⟨(hidden key nonce s).toArray⟩] W fun e w' => e = .returned (.string ⟨(tagOf key (hidden key nonce s)).toArray⟩) ∧ Below W.heap.size W w') :=
        fun b W h1 h2 => keysum_any b (tagK key) (hidden key nonce s) W h2 h1 (by rw [HHL.out]; omega)
      have z1 : (strm (strK key) nonce s).length ≤ 65536 := by rw [strm_length]; omega
      have z2 : (tagOf key (hidden key nonce s)).length ≤ 32 := by rw [tagOf_length]; omega
      have z3 : nonce.length ≤ 12 := by omega
      have z4 : (hidden key nonce s).length ≤ 100000 := by rw [HHL.out]; omega
      generalize strm (strK key) nonce s = y at *
      generalize hidden key nonce s = h at *
      generalize tagOf key h = t at *
      clear h12 hl
      have HSZ := Lib.hid size_pair
      go_enter Tryd.func9, Tryd.ntmps9
      go_wp2_with fail
      refine (cof_any key w HK.out (by omega)).mono ?_; rintro e w1 ⟨a, b, rfl, ha, hb, la, lb, b1⟩
      have HA := Lib.hid ha
      have HB := Lib.hid hb
      have B1 := Lib.hid b1
      clear ha hb la lb b1
      go_wp2_with (first
        | (refine wpList_store_row (o := ⟨none, .store 36 (.tmp 8) (.tmp 19), _, _, _, _⟩) rfl 36 (.tmp 8) (.tmp 19) rfl w1.heap.size rfl (pairV a b) #[.pointer none, .pointer none] rfl _ (heap_alloc_new w1 _) rfl HSZ.out (pairV_one a b) ?_; rw [alloc_setRow])
        | (refine wpList_load_row (o := ⟨some 21, _, _, _, _, _⟩) rfl 36 (.tmp 8) rfl w1.heap.size rfl _ _ _ _ (heap_alloc_new w1 _) Tryd.underlying36 rfl HSZ.out ?_))
      have HP2 := Lib.hid (heap_alloc_new w1 (.cells (pairV a b) 36))
      have HA2 : Hid (KeyAt (w1.alloc (.cells (pairV a b) 36)) a (strK key)) := HA.out.kept (fun j hj => heap_alloc_old w1 _ hj)
      have HB2 : Hid (KeyAt (w1.alloc (.cells (pairV a b) 36)) b (tagK key)) := HB.out.kept (fun j hj => heap_alloc_old w1 _ hj)
      have B2 := Lib.hid (B1.out.alloc B1.out.size (.cells (pairV a b) 36))
      generalize w1.alloc (.cells (pairV a b) 36) = w2 at *
      refine (HX.out a b w2 (HK.out.below B2.out) HA2.out).mono ?_; rintro e w3 ⟨rfl, b3⟩
      have hp3 : w3.cell? ⟨w1.heap.size, 1, none⟩ = some (.pointer (some ⟨b, 0, none⟩)) := by rw [cell_of_row _ _ _ _ _ _ ((b3.block _ (lt_of_block HP2.out)).trans HP2.out)]; rfl
      have B3 := Lib.hid (below_more B2.out b3 B2.out.size)
      have HB3 : Hid (KeyAt w3 b (tagK key)) := HB2.out.below b3
      clear b3
      go_wp2_with fail
      rw [← HH.out]
      refine (HT.out b w3 (HK.out.below B3.out) HB3.out).mono ?_; rintro e w4 ⟨rfl, b4⟩
      have B4 := Lib.hid (below_more B3.out b4 B3.out.size)
      clear b4 hp3
      go_wp2_with fail
      go_ret2
      exact ⟨congrArg (fun p => Ending.returned (tup2 p)) HF.out.symm, B4.out⟩
  · have n1 : ((nonce.length : Int) != 12) = true := by rw [bne_iff_ne]; omega
    have n2 : (nonce.length != 12) = true := by rw [bne_iff_ne]; exact h12
    have HF : Hid (sealR key nonce s = ([], 2)) := by show _ = _; unfold sealR; rw [if_pos h12]
    clear h12
    go_enter Tryd.func9, Tryd.ntmps9
    go_wp2_with fail
    go_ret2
    exact ⟨congrArg (fun p => Ending.returned (tup2 p)) HF.out.symm, Below.refl _ _⟩

set_option maxRecDepth 20000 in
set_option maxHeartbeats 4000000 in
theorem copen_any (key x : List UInt8) (hk : key.length < 1000000) (hx : x.length < 1000000000) (w : World) (hkl : KLaid w) :
    Calls Tryd.prog 11 #[.string ⟨key.toArray⟩, .string ⟨x.toArray⟩] w fun e w' => e = .returned (tup2 (openR key x)) ∧ Below w.heap.size w w' := by
  have HK := Lib.hid hkl
  clear hkl
  obtain ⟨m, hm⟩ : ∃ m : Int, m = (x.length : Int) - 32 := ⟨_, rfl⟩
  have e2 : IntKind.i64.wrap ((x.length : Int) - 32) = m := by rw [IntWalk.i64_in _ (by omega)]; exact hm.symm
  by_cases h44 : x.length < 44
  · have n1 : m < 12 := by omega
    have HF : Hid (openR key x = ([], 6)) := by show _ = _; unfold openR; rw [if_pos h44]
    clear h44 hm
    go_enter Tryd.func11, Tryd.ntmps11
    go_wp2_with fail
    go_ret2
    exact ⟨congrArg (fun p => Ending.returned (tup2 p)) HF.out.symm, Below.refl _ _⟩
  · have n1 : 12 ≤ m := by omega
    by_cases hb : 65580 < x.length
    · have n2 : 65548 < m := by omega
      have HF : Hid (openR key x = ([], 5)) := by show _ = _; unfold openR; rw [if_neg h44, if_pos hb]
      clear h44 hb hm
      go_enter Tryd.func11, Tryd.ntmps11
      go_wp2_with fail
      go_ret2
      exact ⟨congrArg (fun p => Ending.returned (tup2 p)) HF.out.symm, Below.refl _ _⟩
    · obtain ⟨n, hn⟩ : ∃ n, n = x.length - 32 := ⟨_, rfl⟩
      obtain rfl : m = (n : Int) := by omega
      have n2 : (n : Int) ≤ 65548 := by omega
      have k1 : n ≤ x.length := by omega
      have k2 : (n : Int) ≤ x.length := by omega
      have k3 : (12 : Int) ≤ n := by omega
      have k4 : 12 ≤ n := by omega
      have k5 : (12 : Int) ≤ x.length := by omega
      have k6 : 12 ≤ x.length := by omega
      have k7 : (0 : Int) ≤ 12 := by omega
      have hd1 : List.take (x.length - n) (List.drop n x) = List.drop n x := List.take_of_length_le (by rw [List.length_drop]; omega)
      have hd2 : List.take (n - 12) (List.drop 12 x) = (x.take n).drop 12 := by rw [List.drop_take]
      have HSZ := Lib.hid size_pair
      have HLT : Hid ((x.take n).length < 1000000000 ∧ (x.drop n).length < 1000000000 ∧ (tagOf key (x.take n)).length < 1000000000) := ⟨by rw [List.length_take]; omega, by rw [List.length_drop]; omega, by rw [tagOf_length]; omega⟩
      have HLU : Hid ((x.take 12).length < 1000000 ∧ ((x.take n).drop 12).length < 1000000) := ⟨by rw [List.length_take]; omega, by rw [List.length_drop, List.length_take]; omega⟩
      have HT : Hid (∀ (b : Nat) (W : World), KLaid W → KeyAt W b (tagK key) → Calls Tryd.prog 16 #[.pointer (some ⟨b, 0, none⟩), .string ⟨(x.take n).toArray⟩] W fun e w' => e = .returned (.string ⟨(tagOf key (x.take n)).toArray⟩) ∧ Below W.heap.size W w') :=
        fun b W h1 h2 => keysum_any b (tagK key) (x.take n) W h2 h1 HLT.out.1
      have HF : Hid (openR key x = if tagOf key (x.take n) = x.drop n then (strm (strK key) (x.take 12) ((x.take n).drop 12), 0) else ([], 40)) := by
        show _ = _; unfold openR; rw [if_neg h44, if_neg hb, ← hn]
        by_cases ht : tagOf key (x.take n) = x.drop n
        · rw [if_neg (by simpa using ht), if_pos ht]
        · rw [if_pos (by simpa using ht), if_neg ht]
      clear h44 hb hm hn
      go_enter Tryd.func11, Tryd.ntmps11
      go_wp2_with fail
      refine (cof_any key w HK.out (by omega)).mono ?_; rintro e w1 ⟨a, b, rfl, ha, hb, la, lb, b1⟩
      have HA := Lib.hid ha
      have HB := Lib.hid hb
      have B1 := Lib.hid b1
      clear ha hb la lb b1
      go_wp2_with (first
        | (refine wpList_store_row (o := ⟨none, .store 36 (.tmp 7) (.tmp 18), _, _, _, _⟩) rfl 36 (.tmp 7) (.tmp 18) rfl w1.heap.size rfl (pairV a b) #[.pointer none, .pointer none] rfl _ (heap_alloc_new w1 _) rfl HSZ.out (pairV_one a b) ?_; rw [alloc_setRow]))
      have HP2 := Lib.hid (heap_alloc_new w1 (.cells (pairV a b) 36))
      have HA2 : Hid (KeyAt (w1.alloc (.cells (pairV a b) 36)).drew a (strK key)) := HA.out.kept (fun j hj => heap_alloc_old w1 _ hj)
      have HB2 : Hid (KeyAt (w1.alloc (.cells (pairV a b) 36)).drew b (tagK key)) := HB.out.kept (fun j hj => heap_alloc_old w1 _ hj)
      have B2 := Lib.hid (B1.out.alloc B1.out.size (.cells (pairV a b) 36)).drew
      generalize w1.alloc (.cells (pairV a b) 36) = w2 at *
      have hp2 : w2.cell? ⟨w1.heap.size, 1, none⟩ = some (.pointer (some ⟨b, 0, none⟩)) := by rw [cell_of_row _ _ _ _ _ _ HP2.out]; rfl
      have hp3 : w2.drew.cell? ⟨w1.heap.size, 1, none⟩ = some (.pointer (some ⟨b, 0, none⟩)) := hp2
      go_region_held3 (fun w' => w'.cell? ⟨w1.heap.size, 1, none⟩ = some (.pointer (some ⟨b, 0, none⟩))) (first | assumption) (first
        | (go_at_call 16; (with_reducible refine (HT.out b _ (HK.out.below B2.out) HB2.out).mono ?_); rintro e w5 ⟨rfl, b5⟩; have hp5 : w5.cell? ⟨w1.heap.size, 1, none⟩ = some (.pointer (some ⟨b, 0, none⟩)) := (b5.cell (p := ⟨w1.heap.size, 1, none⟩) (lt_of_block HP2.out)).trans hp2; have B5 := Lib.hid (below_more B2.out b5 B2.out.size); have HP5 := Lib.hid ((b5.block _ (lt_of_block HP2.out)).trans HP2.out); have HA5 : Hid (KeyAt w5 a (strK key)) := HA2.out.below b5; clear b5)
        | (go_at_call 19; (with_reducible refine (hsame_any _ _ HLT.out.2.2 HLT.out.2.1 _).mono ?_); rintro e w6 ⟨rfl, b6⟩; have hp6 : w6.cell? ⟨w1.heap.size, 1, none⟩ = some (.pointer (some ⟨b, 0, none⟩)) := (b6.cell (p := ⟨w1.heap.size, 1, none⟩) (lt_of_block HP5.out)).trans hp5; have B6 := Lib.hid (below_more B5.out b6 B5.out.size); have HP6 := Lib.hid ((b6.block _ (lt_of_block HP5.out)).trans HP5.out); have HA6 : Hid (KeyAt w6 a (strK key)) := HA5.out.below b6; clear b6)
        | fail)
      all_goals
        by_cases ht : tagOf key (x.take n) = x.drop n
        · have t1 : (tagOf key (x.take n) == x.drop n) = true := by rw [beq_iff_eq]; exact ht
          rw [if_pos ht] at HF
          rw [t1]
          clear t1 hp2 hp3 hp5 hp6 ht
          go_wp2_with fail
          refine wp_region_noPanic ?_
          refine wp_region_held_drew (S := fun w' => w'.heap[w1.heap.size]? = some (.cells (pairV a b) 36 (0, 0))) (by kernel_rfl) HP6.out (fun hS => ?_)
          refine held_take 0 (.agg (pairV a b)) (oi := ⟨some 30, _, _, _, _, _⟩) rfl (by kernel_rfl) (by kernel_rfl) (by kernel_rfl) rfl (fun _ _ _ h => h) (by
            intro w' hSw
            exact exec_load_row 36 (.tmp 7) rfl w1.heap.size rfl 36 (pairV a b) (0, 0) _ hSw Tryd.underlying36 rfl HSZ.out) hS ?_
          simp only [Act.put, List.setIfInBounds_toArray, List.set_cons_zero, List.set_cons_succ]
          refine held_take 1 (.string ⟨x.toArray⟩) (oi := ⟨some 31, _, _, _, _, _⟩) rfl (by kernel_rfl) (by kernel_rfl) (by kernel_rfl) rfl (fun _ _ _ h => h) (by intro w' hSw; clear hSw; go_simp) hS ?_
          simp only [Act.put, List.setIfInBounds_toArray, List.set_cons_zero, List.set_cons_succ]
          refine held_take 2 (.string ⟨(x.take 12).toArray⟩) (oi := ⟨some 32, _, _, _, _, _⟩) rfl (by kernel_rfl) (by kernel_rfl) (by kernel_rfl) rfl (fun _ _ _ h => h) (by intro w' hSw; clear hSw; go_simp) hS ?_
          simp only [Act.put, List.setIfInBounds_toArray, List.set_cons_zero, List.set_cons_succ]
          refine held_take 3 (.string ⟨x.toArray⟩) (oi := ⟨some 33, _, _, _, _, _⟩) rfl (by kernel_rfl) (by kernel_rfl) (by kernel_rfl) rfl (fun _ _ _ h => h) (by intro w' hSw; clear hSw; go_simp) hS ?_
          simp only [Act.put, List.setIfInBounds_toArray, List.set_cons_zero, List.set_cons_succ]
          refine held_take 4 (.int .i64 n) (oi := ⟨some 34, _, _, _, _, _⟩) rfl (by kernel_rfl) (by kernel_rfl) (by kernel_rfl) rfl (fun _ _ _ h => h) (by intro w' hSw; clear hSw; go_simp) hS ?_
          simp only [Act.put, List.setIfInBounds_toArray, List.set_cons_zero, List.set_cons_succ]
          refine held_take 5 (.string ⟨((x.take n).drop 12).toArray⟩) (oi := ⟨some 35, _, _, _, _, _⟩) rfl (by kernel_rfl) (by kernel_rfl) (by kernel_rfl) rfl (fun _ _ _ h => h) (by intro w' hSw; clear hSw; go_simp) hS ?_
          simp only [Act.put, List.setIfInBounds_toArray, List.set_cons_zero, List.set_cons_succ]
          refine held_call 6 (o := ⟨some 36, _, _, _, _, _⟩) (f := 15) (args := #[.agg (pairV a b), .string ⟨(x.take 12).toArray⟩, .string ⟨((x.take n).drop 12).toArray⟩]) (w' := w6.drew) (by kernel_rfl) rfl rfl (by kernel_rfl) ?_
          refine (turned_any a b (strK key) (x.take 12) ((x.take n).drop 12) HLU.out.1 HLU.out.2 w6.drew (HK.out.below B6.out.drew) (HA6.out.kept (fun j hj => rfl))).mono ?_; rintro e w7 ⟨rfl, b7⟩
          refine ⟨_, rfl, (b7.block _ (lt_of_block HP6.out)).trans HP6.out, ?_⟩
          have B7 := Lib.hid (below_more B6.out.drew b7 B6.out.drew.size)
          have hS7 : w7.heap[w1.heap.size]? = some (.cells (pairV a b) 36 (0, 0)) := (b7.block _ (lt_of_block HP6.out)).trans HP6.out
          simp only [Act.put, List.setIfInBounds_toArray, List.set_cons_zero, List.set_cons_succ]
          refine held_value 7 (o := ⟨some 4, _, _, _, _, _⟩) (v := .string ⟨(strm (strK key) (x.take 12) ((x.take n).drop 12)).toArray⟩) (w' := w7) (by kernel_rfl) rfl rfl (by go_simp) hS7 ?_
          simp only [Act.put, List.setIfInBounds_toArray, List.set_cons_zero, List.set_cons_succ]
          refine held_value 8 (o := ⟨some 5, _, _, _, _, _⟩) (v := .int .i64 0) (w' := w7) (by kernel_rfl) rfl rfl (by go_simp) hS7 ?_
          simp only [Act.put, List.setIfInBounds_toArray, List.set_cons_zero, List.set_cons_succ]
          refine wpAnyH_done (by kernel_rfl) ?_ _
          refine NoPanic.normal ?_
          go_wp2_with fail
          go_ret2
          exact ⟨congrArg (fun p => Ending.returned (tup2 p)) HF.out.symm, B7.out⟩
        · have t1 : (tagOf key (x.take n) == x.drop n) = false := by rw [beq_eq_false_iff_ne]; exact ht
          rw [if_neg ht] at HF
          rw [t1]
          clear t1 hp2 hp3 hp5 hp6 ht
          go_wp2_with fail
          go_ret2
          exact ⟨congrArg (fun p => Ending.returned (tup2 p)) HF.out.symm, B6.out⟩
end Go.Proofs.YtjjdjdhkfmfchaaDoor

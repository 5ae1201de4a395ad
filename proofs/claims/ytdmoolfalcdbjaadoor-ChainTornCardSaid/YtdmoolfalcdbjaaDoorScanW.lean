/- The walk of chain.Scan. -/
import Derived.Test.YtdmoolfalcdbjaaDoorScanIt
import Derived.Test.YtdmoolfalcdbjaaDoorOwnS
import Derived.Test.YtdmoolfalcdbjaaDoorHeld
import Derived.Test.YtdmoolfalcdbjaaDoorScope
import Derived.Shelf.Abstract
namespace Go.Proofs.YtdmoolfalcdbjaaDoor
set_option linter.unusedVariables false
set_option linter.unusedSimpArgs false
open Go.RowKit Go.Shelf Sha Chain
attribute [local go_sem] Oper.semAt_some

theorem csteps_any (s : List UInt8) (w : World) :
    Calls Tryd.prog 23 #[.string ⟨s.toArray⟩] w fun e w' => e = .returned (.func (.func 33) #[] #[.pointer (some ⟨w.heap.size, 0, none⟩)]) ∧ w' = w.alloc (.cells #[.string ⟨s.toArray⟩] 9) := by
  go_enter Tryd.func23, Tryd.ntmps23
  go_wp2
  go_ret
  exact ⟨rfl, rfl⟩

theorem zip_one (p : Tmp) (v : Value) (t : Array Value) : ((#[p] : Array Tmp).zip #[v]).foldl (fun t (p, v) => t.setIfInBounds p v) t = t.setIfInBounds p v := by simp
theorem loadVar_one {P : Program} {ty : TypeId} {a : Addr} {w : World} {v : Value} {d : TypeDesc} (hu : P.underlying ty = some d) (hd : (match d with | .struct _ | .array _ _ => true | _ => false) = false) (hc : w.cell? a = some v) : (loadVar ty a).run P w = .ok v w := by
  have hagg : (isAgg ty).run P w = .ok false w := by
    unfold isAgg
    rw [Sem.run_bind, run_underlying hu w]
    cases d <;> simp_all
  simp [loadVar, Sem.run_bind, hagg, hc]
theorem results_cells3 {P : Program} {fn : Func} {p q r : Tmp} {s t u : TypeId} (h : fn.results = #[.cell p s, .cell q t, .cell r u]) (tmps : Array Value) (w : World) {a b c : Addr} {x y z : Value}
    (hp : tmps.getD p undef = .pointer (some a)) (hq : tmps.getD q undef = .pointer (some b)) (hr : tmps.getD r undef = .pointer (some c))
    (h1 : (loadVar s a).run P w = .ok x w) (h2 : (loadVar t b).run P w = .ok y w) (h3 : (loadVar u c).run P w = .ok z w) : (results fn tmps).run P w = .ok (.tuple #[x, y, z]) w := by
  simp only [results, h]
  simp [Sem.run_bind, asAddr, -Array.getD_eq_getD_getElem?, hp, hq, hr, h1, h2, h3, Result.andThen]
def stepC (r l : List UInt8) (p : Nat) (b : Bool) : Array Value := #[.string ⟨r.toArray⟩] ++ brow l ++ #[.int .i64 p, .bool b]
theorem stepV_eq (r l : List UInt8) (p : Nat) (b : Bool) : stepV r l p b = .agg (stepC r l p b) := rfl
theorem stepC_size {l : List UInt8} (h : l.length = 32) (r : List UInt8) (p : Nat) (b : Bool) : (stepC r l p b).size = 35 := by simp [stepC, brow_size, h]
theorem stepC_rec (r l : List UInt8) (p : Nat) (b : Bool) : (stepC r l p b)[0]? = some (.string ⟨r.toArray⟩) := by
  unfold stepC
  rw [Array.append_assoc, Array.getElem?_append_left (by simp)]
  rfl
theorem stepC_link {l : List UInt8} (h : l.length = 32) (r : List UInt8) (p : Nat) (b : Bool) (i : Nat) (hi : i < l.length) : (stepC r l p b)[1 + i]? = some (.int .u8 (by8 l[i])) := by
  have h1 : (#[Value.string ⟨r.toArray⟩] ++ brow l)[1 + i]? = some (.int .u8 (by8 l[i])) := by
    rw [Array.getElem?_append_right (by simp)]
    simpa using brow_at l i hi
  unfold stepC
  rw [Array.getElem?_append_left (by simp [brow_size]; omega)]
  exact h1
theorem stepC_at {l : List UInt8} (h : l.length = 32) (r : List UInt8) (p : Nat) (b : Bool) : (stepC r l p b)[33]? = some (.int .i64 p) := by
  unfold stepC
  rw [Array.getElem?_append_right (by simp [brow_size, h])]
  simp [brow_size, h]
theorem stepC_is {l : List UInt8} (h : l.length = 32) (r : List UInt8) (p : Nat) (b : Bool) : (stepC r l p b)[34]? = some (.bool b) := by
  unfold stepC
  rw [Array.getElem?_append_right (by simp [brow_size, h])]
  simp [brow_size, h]
theorem stepC_one (r l : List UInt8) (p : Nat) (b : Bool) : (stepC r l p b).all (·.oneCell') = true := by
  unfold stepC
  rw [Array.all_append, Array.all_append, brow_one]
  simp [Value.oneCell']
theorem zero_step : ∀ w, (zeroValue 51).run Tryd.prog w = .ok (.agg (stepC [] zlink 0 false)) w := fun w => by kernel_rfl
theorem size_step : (Tryd.prog.info? 51).map (·.size) = some 35 := by kernel_rfl

/-- what lies between the rounds: the records, the head, the place. -/
def ScanI (s : List UInt8) (w V : World) (k : Nat) (W : World) : Prop :=
  ∃ lv, W.heap[w.heap.size]? = some (.cells #[lv] 23 (0, 0)) ∧ OwnS W (V.heap.size + 3) lv (recs s k) ∧ W.heap[w.heap.size + 1]? = some (.cells #[.string ⟨(stt s k).1.toArray⟩] 9 (0, 0)) ∧
    W.heap[w.heap.size + 2]? = some (.cells #[.int .i64 (stt s k).2] 3 (0, 0)) ∧ Below w.heap.size w W
theorem ScanI.stable (s : List UInt8) (w V : World) (hV : w.heap.size + 3 ≤ V.heap.size) (k : Nat) : Stable V.heap.size (V.heap.size + 2) (ScanI s w V k) := by
  rintro A B row ⟨lv, h1, h2, h3, h4, h5⟩ hg hr
  have hne : ∀ b, b < V.heap.size → some b ≠ row := fun b hb e => by have := hr b e.symm; omega
  refine ⟨lv, (hg.block _ (lt_of_block h1) (hne _ (by omega))).trans h1, h2.kept (fun g hgg => hg.block g (h2.lt g hgg).2 (fun e => by have := hr g e.symm; have := (h2.lt g hgg).1; omega)), (hg.block _ (lt_of_block h3) (hne _ (by omega))).trans h3, (hg.block _ (lt_of_block h4) (hne _ (by omega))).trans h4, ?_⟩
  exact h5.grown hg h5.size (fun r e => by have := hr r e; omega)

/-- what Scan answers. -/
def Scanned (s : List UInt8) (w : World) (e : Ending) (w' : World) : Prop :=
  ∃ lv, e = .returned (.tuple #[lv, .string ⟨(scanR s).2.1.toArray⟩, .int .i64 (scanR s).2.2]) ∧ IsStrs w' lv (scanR s).1 ∧ Below w.heap.size w w'

set_option maxRecDepth 20000 in
set_option maxHeartbeats 4000000 in
theorem scan_any (s : List UInt8) (hs : s.length < 100000000) (w : World) (hk : KLaid w) :
    Calls Tryd.prog 9 #[.string ⟨s.toArray⟩] w (Scanned s w) := by
  have HK := Lib.hid hk
  clear hk
  refine (callsIn_wide (n := 0)).1 (callsIn_of_wp_marks Tryd.func9 rfl trivial ?_ rfl)
  simp only [Tryd.ntmps9, List.size_toArray, List.length_cons, List.length_nil, Nat.reduceAdd, Nat.reduceSub, Array.replicate_succ, Array.replicate_zero, List.push_toArray, List.append_toArray, List.nil_append, List.cons_append]
  gi_wp2_with fail
  refine wpIn_scope_straight ?_
  gi_wp2_with fail
  refine ⟨trivial, rfl, ?_⟩
  have HB0 : Hid (Below w.heap.size w (((w.alloc (.cells #[.slice none 0 0] 23)).alloc (.cells #[.string ⟨#[]⟩] 9)).alloc (.cells #[.int .i64 0] 3))) := (((Below.refl _ _).alloc (Nat.le_refl _) _).alloc (by simp) _).alloc (by simp; omega) _
  have H1 : Hid ((((w.alloc (.cells #[.slice none 0 0] 23)).alloc (.cells #[.string ⟨#[]⟩] 9)).alloc (.cells #[.int .i64 0] 3)).heap[w.heap.size]? = some (.cells #[.slice none 0 0] 23 (0, 0))) := by
    show _ = _
    rw [heap_alloc_old _ _ (by simp; omega), heap_alloc_old _ _ (by simp), heap_alloc_new]
  have H2 : Hid ((((w.alloc (.cells #[.slice none 0 0] 23)).alloc (.cells #[.string ⟨#[]⟩] 9)).alloc (.cells #[.int .i64 0] 3)).heap[w.heap.size + 1]? = some (.cells #[.string ⟨#[]⟩] 9 (0, 0))) := by
    show _ = _
    rw [heap_alloc_old _ _ (by simp)]
    have := heap_alloc_new (w.alloc (.cells #[.slice none 0 0] 23)) (.cells #[.string ⟨#[]⟩] 9)
    rwa [World.size_alloc] at this
  have H3 : Hid ((((w.alloc (.cells #[.slice none 0 0] 23)).alloc (.cells #[.string ⟨#[]⟩] 9)).alloc (.cells #[.int .i64 0] 3)).heap[w.heap.size + 2]? = some (.cells #[.int .i64 0] 3 (0, 0))) := by
    have := heap_alloc_new ((w.alloc (.cells #[.slice none 0 0] 23)).alloc (.cells #[.string ⟨#[]⟩] 9)) (.cells #[.int .i64 0] 3)
    rw [World.size_alloc, World.size_alloc] at this
    exact this
  generalize ((w.alloc (.cells #[.slice none 0 0] 23)).alloc (.cells #[.string ⟨#[]⟩] 9)).alloc (.cells #[.int .i64 0] 3) = w0 at *
  refine (callsIn_wide.2 (first_any w0)).mono ?_; rintro e w1 ⟨rfl, b1⟩
  have G1 := Lib.hid ((b1.block _ (lt_of_block H1.out)).trans H1.out)
  have G2 := Lib.hid ((b1.block _ (lt_of_block H2.out)).trans H2.out)
  have G3 := Lib.hid ((b1.block _ (lt_of_block H3.out)).trans H3.out)
  have B1 := Lib.hid (below_more HB0.out b1 HB0.out.size)
  have hc2 : w1.cell? ⟨w.heap.size + 1, 0, none⟩ = some (.string ⟨#[]⟩) := by rw [cell_of_row _ _ _ _ _ _ G2.out]; rfl
  have hf2 : w1.frozen? ⟨w.heap.size + 1, 0, none⟩ = false := frozen_of_row _ _ _ _ _ G2.out
  have HS1 : Hid ((w1.setCell ⟨w.heap.size + 1, 0, none⟩ (.string ⟨zlink.toArray⟩)).heap[w.heap.size]? = some (.cells #[.slice none 0 0] 23 (0, 0))) := by
    show _ = _; rw [heap_setCell_other _ _ _ _ (by simp)]; exact G1.out
  have HS2 : Hid ((w1.setCell ⟨w.heap.size + 1, 0, none⟩ (.string ⟨zlink.toArray⟩)).heap[w.heap.size + 1]? = some (.cells #[.string ⟨zlink.toArray⟩] 9 (0, 0))) := by
    show _ = _; rw [heap_setCell_same _ _ _ _ _ _ G2.out]; rfl
  have HS3 : Hid ((w1.setCell ⟨w.heap.size + 1, 0, none⟩ (.string ⟨zlink.toArray⟩)).heap[w.heap.size + 2]? = some (.cells #[.int .i64 0] 3 (0, 0))) := by
    show _ = _; rw [heap_setCell_other _ _ _ _ (by simp)]; exact G3.out
  have BS : Hid (Below w.heap.size w (w1.setCell ⟨w.heap.size + 1, 0, none⟩ (.string ⟨zlink.toArray⟩))) := B1.out.setCell (by simp) _
  clear b1 HB0 H1 H2 H3
  gi_wp2_with fail
  refine wpIn_label ?_
  gi_wp2_with fail
  refine ⟨trivial, rfl, ?_⟩
  generalize w1.setCell ⟨w.heap.size + 1, 0, none⟩ (.string ⟨zlink.toArray⟩) = w2 at *
  refine (callsIn_wide.2 (csteps_any s w2)).mono ?_; rintro e w3 ⟨rfl, rfl⟩
  have J1 := Lib.hid ((heap_alloc_old w2 (.cells #[.string ⟨s.toArray⟩] 9) (lt_of_block HS1.out)).trans HS1.out)
  have J2 := Lib.hid ((heap_alloc_old w2 (.cells #[.string ⟨s.toArray⟩] 9) (lt_of_block HS2.out)).trans HS2.out)
  have J3 := Lib.hid ((heap_alloc_old w2 (.cells #[.string ⟨s.toArray⟩] 9) (lt_of_block HS3.out)).trans HS3.out)
  have JB := Lib.hid (heap_alloc_new w2 (.cells #[.string ⟨s.toArray⟩] 9))
  have JW := Lib.hid (BS.out.alloc BS.out.size (.cells #[.string ⟨s.toArray⟩] 9))
  have JBS : Hid (w.heap.size + 3 ≤ w2.heap.size) := lt_of_block HS3.out
  generalize w2.heap.size = bs at *
  clear hc2 hf2
  gi_wp2_with fail
  have HBS : Hid (bs < (w2.alloc (.cells #[.string ⟨s.toArray⟩] 9)).heap.size) := lt_of_block JB.out
  have HKV : Hid (KLaid (w2.alloc (.cells #[.string ⟨s.toArray⟩] 9))) := HK.out.below JW.out
  have HV3 : Hid (w.heap.size + 3 ≤ (w2.alloc (.cells #[.string ⟨s.toArray⟩] 9)).heap.size) := by show _ ≤ _; have := JBS.out; have := HBS.out; omega
  generalize w2.alloc (.cells #[.string ⟨s.toArray⟩] 9) = V at *
  have HI0 : Hid (ScanI s w V 0 V) := ⟨_, J1.out, OwnS.nil _ _, J2.out, J3.out, JW.out⟩
  refine wpIn_rangeFunc_break (gf := 33) (lb := #[.pointer (some ⟨bs, 0, none⟩)]) rfl (enters_of Tryd.func33 (by kernel_rfl) rfl) (el := elV s) (K := many s) (keep := fun b => b = bs ∨ b = 0) ?_ 0 ?_ ?_ (ScanI s w V) (ScanI s w V (many s)) (ScanI.stable s w V HV3.out) (ScanI.stable s w V HV3.out _) HI0.out ?_ ?_
  · rintro b (rfl | rfl)
    · exact HBS.out
    · exact HKV.out.lt
  · intro W0 hg hs0
    exact steps_hands s hs bs W0 ((hg.block bs HBS.out (by simp)).trans JB.out) (HKV.out.kept (hg.block _ HKV.out.lt (by simp)))
  · intro k
    unfold elV
    split <;> rfl
  · intro l k W hl hk hlt hI
    have HI := Lib.hid hI
    have HL := Lib.hid hl
    have HLT := Lib.hid hlt
    have HKM := Lib.hid hk
    clear hI hlt
    obtain ⟨r, lk, p, b, hel, hlk, htrue, hfalse⟩ : ∃ r lk p b, elV s k = #[stepV r lk p b] ∧ lk.length = 32 ∧ (b = true → k < many s ∧ r = recAt s k ∧ lk = (stt s (k + 1)).1 ∧ p = (stt s (k + 1)).2) ∧ (b = false → k = many s) := by
      unfold elV
      split
      · rename_i h
        exact ⟨_, _, _, _, rfl, link_length s _, fun _ => ⟨h, rfl, rfl, rfl⟩, fun h => by cases h⟩
      · rename_i h
        obtain ⟨r, lk, p, e, hl⟩ := lastV_form s
        exact ⟨r, lk, p, false, by rw [e], hl, fun h => (by cases h), fun _ => by omega⟩
    rw [hel]
    simp only [zip_one, List.setIfInBounds_toArray, List.set_cons_zero, List.set_cons_succ]
    refine round_region_list (ls := [_, _]) rfl (by rintro ⟨a, w, h⟩; exact h) ?_
    refine wpList_alloc_row rfl 51 rfl _ zero_step ?_
    refine wpList_store_row rfl 51 (.tmp 5) (.tmp 9) rfl W.heap.size rfl (stepC r lk p b) (stepC [] zlink 0 false) rfl _ (heap_alloc_new _ _) (by rw [stepC_size hlk, stepC_size zlink_length]) (by rw [stepC_size hlk]; exact size_step) (stepC_one _ _ _ _) ?_
    rw [alloc_setRow]
    have HW := Lib.hid (heap_alloc_new W (.cells (stepC r lk p b) 51))
    have HI1 : Hid (ScanI s w V k (W.alloc (.cells (stepC r lk p b) 51))) := (ScanI.stable s w V HV3.out k).alloc _ HI.out
    refine ⟨⟨by simp, fun b hb => ?_⟩, ?_⟩
    · refine heap_alloc_old _ _ ?_
      have := HLT.out; have := HBS.out; have := HKV.out.lt
      rcases hb with (rfl | rfl) | h <;> omega
    intro W2 hg2
    have HI2 := Lib.hid ((ScanI.stable s w V HV3.out k) _ _ _ HI1.out hg2 (fun r e => by cases e; have := HL.out; omega))
    have HW2 := Lib.hid ((hg2.block _ (lt_of_block HW.out) (fun e => by have := Option.some.inj e; have := HL.out; have := HLT.out; omega)).trans HW.out)
    have hd3 : W2.cell? ⟨W.heap.size, 34, none⟩ = some (.bool b) := by rw [cell_of_row _ _ _ _ _ _ HW2.out]; exact stepC_is hlk _ _ _
    have HLW : Hid (∀ g, V.heap.size + 3 ≤ g → g < W.heap.size → g ≠ W.heap.size) := fun g _ h => Nat.ne_of_lt h
    obtain ⟨lv, hc1, hown, -⟩ := HI.out
    have HC1 := Lib.hid ((hg2.block w.heap.size (by simp; have := lt_of_block hc1; omega) (fun e => by have := Option.some.inj e; have := HL.out; have := HV3.out; omega)).trans ((heap_alloc_old W (.cells (stepC r lk p b) 51) (lt_of_block hc1)).trans hc1))
    have HG := Lib.hid hown.lt
    have HSZ : Hid (W.heap.size < W2.heap.size) := lt_of_block HW2.out
    clear hg2 HI1 HW hc1 hown
    cases b with
    | false =>
      have hK := hfalse rfl
      subst hK
      clear htrue hfalse
      gi_wp2_with fail
      exact ⟨rfl, rfl, HI2.out, Kept.refl _ _⟩
    | true =>
      obtain ⟨hlt, rfl, rfl, rfl⟩ := htrue rfl
      clear htrue hfalse
      gi_wp2_with fail
      obtain ⟨lv2, c1, ow, c2, c3, bw⟩ := HI2.out
      have hs1 : W2.cell? ⟨W.heap.size, 33, none⟩ = some (.int .i64 (stt s (k + 1)).2) := by rw [cell_of_row _ _ _ _ _ _ HW2.out]; exact stepC_at hlk _ _ _
      refine round_region_held (S := fun w' => w'.heap[W.heap.size]? = some (.cells (stepC (recAt s k) (stt s (k + 1)).1 (stt s (k + 1)).2 true) 51 (0, 0))) (by kernel_rfl) (by kernel_rfl) (by rintro ⟨a, w, h⟩; exact h) ?_
      refine held_take 1 (.pointer (some ⟨W.heap.size, 0, none⟩)) (oi := ⟨some 14, _, _, _, _, _⟩) rfl (by kernel_rfl) (by kernel_rfl) (by kernel_rfl) rfl (fun _ _ _ h => h) (by intro w' hSw; go_simp) HW2.out ?_
      simp only [Act.put, List.setIfInBounds_toArray, List.set_cons_zero, List.set_cons_succ]
      refine held_take 5 (.pointer (some ⟨W.heap.size, 1, none⟩)) (oi := ⟨some 18, _, _, _, _, _⟩) rfl (by kernel_rfl) (by kernel_rfl) (by kernel_rfl) rfl (fun _ _ _ h => h) (by intro w' hSw; go_simp) HW2.out ?_
      simp only [Act.put, List.setIfInBounds_toArray, List.set_cons_zero, List.set_cons_succ]
      refine held_take 8 (.pointer (some ⟨W.heap.size, 33, none⟩)) (oi := ⟨some 21, _, _, _, _, _⟩) rfl (by kernel_rfl) (by kernel_rfl) (by kernel_rfl) rfl (fun _ _ _ h => h) (by intro w' hSw; go_simp) HW2.out ?_
      simp only [Act.put, List.setIfInBounds_toArray, List.set_cons_zero, List.set_cons_succ]
      refine held_take 6 (.slice (some ⟨W.heap.size, 1, none⟩) 32 32) (oi := ⟨some 19, _, _, _, _, _⟩) rfl (by kernel_rfl) (by kernel_rfl) (by kernel_rfl) rfl (fun _ _ _ h => h) (by intro w' hSw; go_simp) HW2.out ?_
      simp only [Act.put, List.setIfInBounds_toArray, List.set_cons_zero, List.set_cons_succ]
      refine held_take 2 (.string ⟨(recAt s k).toArray⟩) (oi := ⟨some 15, _, _, _, _, _⟩) rfl (by kernel_rfl) (by kernel_rfl) (by kernel_rfl) rfl (fun _ _ _ h => h) (by
        intro w' hSw
        have : w'.cell? ⟨W.heap.size, 0, none⟩ = some (.string ⟨(recAt s k).toArray⟩) := by rw [cell_of_row _ _ _ _ _ _ hSw]; exact stepC_rec _ _ _ _
        go_simp) HW2.out ?_
      simp only [Act.put, List.setIfInBounds_toArray, List.set_cons_zero, List.set_cons_succ]
      refine held_take 9 (.int .i64 (stt s (k + 1)).2) (oi := ⟨some 22, _, _, _, _, _⟩) rfl (by kernel_rfl) (by kernel_rfl) (by kernel_rfl) rfl (fun _ _ _ h => h) (by
        intro w' hSw
        have : w'.cell? ⟨W.heap.size, 33, none⟩ = some (.int .i64 (stt s (k + 1)).2) := by rw [cell_of_row _ _ _ _ _ _ hSw]; exact stepC_at hlk _ _ _
        go_simp) HW2.out ?_
      simp only [Act.put, List.setIfInBounds_toArray, List.set_cons_zero, List.set_cons_succ]
      refine held_take 7 (.string ⟨(stt s (k + 1)).1.toArray⟩) (oi := ⟨some 20, _, _, _, _, _⟩) rfl (by kernel_rfl) (by kernel_rfl) (by kernel_rfl) rfl (fun _ _ _ h => h) (by
        intro w' hSw
        have : (convert 44 9 (.slice (some ⟨W.heap.size, 1, none⟩) 32 32)).run Tryd.prog w' = .ok (.string ⟨(stt s (k + 1)).1.toArray⟩) w' := conv_bytes hlk (fun i hi => by rw [cell_of_row _ _ _ _ _ _ hSw]; exact stepC_link hlk _ _ _ i hi)
        go_simp) HW2.out ?_
      simp only [Act.put, List.setIfInBounds_toArray, List.set_cons_zero, List.set_cons_succ]
      obtain rfl : lv2 = lv := by
        have := HC1.out.symm.trans c1
        simp only [Option.some.injEq, Obj.cells.injEq] at this
        simpa using this.1.symm
      have hcl : W2.drew.cell? ⟨w.heap.size, 0, none⟩ = some lv2 := by rw [cell_of_row _ _ _ _ _ _ (show W2.drew.heap[w.heap.size]? = _ from c1)]; rfl
      have hcl2 : (W2.drew.alloc (.cells #[.string ⟨(recAt s k).toArray⟩] 9)).cell? ⟨w.heap.size, 0, none⟩ = some lv2 := by
        rw [cell_of_row _ _ _ _ _ _ ((heap_alloc_old W2.drew (.cells #[.string ⟨(recAt s k).toArray⟩] 9) (lt_of_block c1)).trans c1)]; rfl
      have hcl3 : ((W2.alloc (.cells #[.string ⟨(recAt s k).toArray⟩] 9)).drew).cell? ⟨w.heap.size, 0, none⟩ = some lv2 := hcl2
      have hST : Hid ((W2.drew.alloc (.cells #[.string ⟨(recAt s k).toArray⟩] 9)).heap[W.heap.size]? = some (.cells (stepC (recAt s k) (stt s (k + 1)).1 (stt s (k + 1)).2 true) 51 (0, 0))) :=
        (heap_alloc_old W2.drew (.cells #[.string ⟨(recAt s k).toArray⟩] 9) (lt_of_block HW2.out)).trans HW2.out
      refine wpAnyH_all (rs := [0, 3]) (by kernel_rfl) (by simp) ?_
      intro j hj
      have hj' : j = 0 ∨ j = 3 := by simpa using hj
      clear hj
      rcases hj' with rfl | rfl
      refine wpOp_value (o := ⟨some 13, _, _, _, _, _⟩) (v := lv2) (w' := W2.drew) rfl rfl (by go_simp) ⟨HW2.out, ?_⟩
      simp only [Act.put, List.setIfInBounds_toArray, List.set_cons_zero, List.set_cons_succ]
      refine held_value 3 (o := ⟨some 16, _, _, _, _, _⟩) (v := .slice (some ⟨W2.heap.size, 0, none⟩) 1 1) (w' := W2.drew.alloc (.cells #[.string ⟨(recAt s k).toArray⟩] 9)) (by kernel_rfl) rfl rfl (by kernel_rfl) hST.out ?_
      simp only [Act.put, List.setIfInBounds_toArray, List.set_cons_zero, List.set_cons_succ]
      rotate_left
      refine wpOp_value (o := ⟨some 16, _, _, _, _, _⟩) (v := .slice (some ⟨W2.heap.size, 0, none⟩) 1 1) (w' := W2.drew.alloc (.cells #[.string ⟨(recAt s k).toArray⟩] 9)) rfl rfl (by kernel_rfl) ⟨hST.out, ?_⟩
      simp only [Act.put, List.setIfInBounds_toArray, List.set_cons_zero, List.set_cons_succ]
      refine held_value 0 (o := ⟨some 13, _, _, _, _, _⟩) (v := lv2) (w' := W2.drew.alloc (.cells #[.string ⟨(recAt s k).toArray⟩] 9)) (by kernel_rfl) rfl rfl (by go_simp) hST.out ?_
      simp only [Act.put, List.setIfInBounds_toArray, List.set_cons_zero, List.set_cons_succ]
      all_goals
        obtain ⟨i0, hi, hz0, hz1, hz2⟩ := info_parts info_str
        have how : OwnS (W2.drew.alloc (.cells #[.string ⟨(recAt s k).toArray⟩] 9)) (V.heap.size + 3) lv2 (recs s k) := ow.kept (fun g hg => heap_alloc_old W2.drew _ (Nat.lt_trans (HG.out g hg).2 HSZ.out))
        have hx : IsStrs (W2.drew.alloc (.cells #[.string ⟨(recAt s k).toArray⟩] 9)) (.slice (some ⟨W2.heap.size, 0, none⟩) 1 1) [recAt s k] := by
          refine .inr ⟨W2.heap.size, 0, 1, rfl, by simp, by simp, by unfold maxLen; omega, by simp, fun i hi => ?_⟩
          obtain rfl : i = 0 := by simpa using hi
          rw [cell_of_row _ _ _ _ _ _ (show (W2.drew.alloc (.cells #[.string ⟨(recAt s k).toArray⟩] 9)).heap[W2.heap.size]? = _ from heap_alloc_new W2.drew _)]
          rfl
        obtain ⟨v', w4, hr, hown4, hg4⟩ := run_append_strs (P := Tryd.prog) _ 23 23 i0 Tryd.underlying23 hi hz0 hz1 hz2 (V.heap.size + 3) (by have := HLT.out; have := HSZ.out; simp; omega) lv2 (recs s k) how _ _ hx (by rw [recs_length]; have := many_le s; simp; omega)
        have hblk : ∀ b, b < W2.heap.size → (∀ g, lv2.ownBlock = some g → b ≠ g) → w4.heap[b]? = W2.heap[b]? := fun b hb hne => by
          rw [hg4.block b (by simp; omega) (fun e => hne b e.symm rfl)]
          exact heap_alloc_old W2.drew _ hb
        refine held_value 4 (o := ⟨some 17, _, _, _, _, _⟩) (v := v') (w' := w4) (by kernel_rfl) rfl rfl (by
          unfold execOp
          simp only [resolve, invoke, builtin, Sem.run_bind, Sem.run_pure, Result.andThen_ok, List.map_toArray, List.map_cons, List.map_nil]
          exact congrArg (fun r => r.andThen fun a w' => Result.ok (Next.value a) w') hr) ?_ ?_
        · exact (hblk _ HSZ.out (fun g hg => Nat.ne_of_gt (HG.out g hg).2)).trans HW2.out
        simp only [Act.put, List.setIfInBounds_toArray, List.set_cons_zero, List.set_cons_succ]
        have hlow : ∀ b, b < V.heap.size + 3 → w4.heap[b]? = W2.heap[b]? := fun b hb => hblk b (by have := HLT.out; have := HSZ.out; omega) (fun g hg => by have := (HG.out g hg).1; omega)
        have q1 : w4.heap[w.heap.size]? = some (.cells #[lv2] 23 (0, 0)) := (hlow _ (by have := HV3.out; omega)).trans c1
        have q2 : w4.heap[w.heap.size + 1]? = some (.cells #[.string ⟨(stt s k).1.toArray⟩] 9 (0, 0)) := (hlow _ (by have := HV3.out; omega)).trans c2
        have q3 : w4.heap[w.heap.size + 2]? = some (.cells #[.int .i64 (stt s k).2] 3 (0, 0)) := (hlow _ (by have := HV3.out; omega)).trans c3
        have g1 : w4.cell? ⟨w.heap.size, 0, none⟩ = some lv2 := by rw [cell_of_row _ _ _ _ _ _ q1]; rfl
        have g2 : w4.frozen? ⟨w.heap.size, 0, none⟩ = false := frozen_of_row _ _ _ _ _ q1
        have g3 : w4.cell? ⟨w.heap.size + 1, 0, none⟩ = some (.string ⟨(stt s k).1.toArray⟩) := by rw [cell_of_row _ _ _ _ _ _ q2]; rfl
        have g4 : w4.frozen? ⟨w.heap.size + 1, 0, none⟩ = false := frozen_of_row _ _ _ _ _ q2
        have g5 : w4.cell? ⟨w.heap.size + 1 + 1, 0, none⟩ = some (.int .i64 (stt s k).2) := by rw [cell_of_row _ _ _ _ _ _ q3]; rfl
        have g6 : w4.frozen? ⟨w.heap.size + 1 + 1, 0, none⟩ = false := frozen_of_row _ _ _ _ _ q3
        have hstep : w4.heap[W.heap.size]? = some (.cells (stepC (recAt s k) (stt s (k + 1)).1 (stt s (k + 1)).2 true) 51 (0, 0)) := (hblk _ HSZ.out (fun g hg => Nat.ne_of_gt (HG.out g hg).2)).trans HW2.out
        have hWw : w.heap.size + 2 < W.heap.size := by have := HV3.out; have := HLT.out; omega
        obtain ⟨av, cv, rfl⟩ := hown4.form
        refine held_skip 10 (o := ⟨none, _, _, _, _, _⟩) (w' := w4.setCell ⟨w.heap.size, 0, none⟩ (.slice av (recs s k ++ [recAt s k]).length cv)) (by kernel_rfl) rfl rfl (by go_simp) (by rw [heap_setCell_other _ _ _ _ (by simp; omega)]; exact hstep) ?_
        simp only [Act.put]
        refine held_skip 11 (o := ⟨none, _, _, _, _, _⟩) (w' := (w4.setCell ⟨w.heap.size, 0, none⟩ (.slice av (recs s k ++ [recAt s k]).length cv)).setCell ⟨w.heap.size + 1, 0, none⟩ (.string ⟨(stt s (k + 1)).1.toArray⟩)) (by kernel_rfl) rfl rfl (by go_simp) (by rw [heap_setCell_other _ _ _ _ (by simp; omega), heap_setCell_other _ _ _ _ (by simp; omega)]; exact hstep) ?_
        simp only [Act.put]
        refine held_skip 12 (o := ⟨none, _, _, _, _, _⟩) (w' := ((w4.setCell ⟨w.heap.size, 0, none⟩ (.slice av (recs s k ++ [recAt s k]).length cv)).setCell ⟨w.heap.size + 1, 0, none⟩ (.string ⟨(stt s (k + 1)).1.toArray⟩)).setCell ⟨w.heap.size + 1 + 1, 0, none⟩ (.int .i64 (stt s (k + 1)).2)) (by kernel_rfl) rfl rfl (by go_simp) (by rw [heap_setCell_other _ _ _ _ (by simp; omega), heap_setCell_other _ _ _ _ (by simp; omega), heap_setCell_other _ _ _ _ (by simp; omega)]; exact hstep) ?_
        simp only [Act.put]
        refine wpAnyH_done (by kernel_rfl) ?_ _
        have hkeepset : ∀ b, b ≠ w.heap.size → b ≠ w.heap.size + 1 → b ≠ w.heap.size + 2 → (((w4.setCell ⟨w.heap.size, 0, none⟩ (.slice av (recs s k ++ [recAt s k]).length cv)).setCell ⟨w.heap.size + 1, 0, none⟩ (.string ⟨(stt s (k + 1)).1.toArray⟩)).setCell ⟨w.heap.size + 1 + 1, 0, none⟩ (.int .i64 (stt s (k + 1)).2)).heap[b]? = w4.heap[b]? := fun b h1 h2 h3 => by
          rw [heap_setCell_other _ _ _ _ h3, heap_setCell_other _ _ _ _ h2, heap_setCell_other _ _ _ _ h1]
        have hsz4 : W2.heap.size ≤ w4.heap.size := by have := hg4.size; simp at this; omega
        refine ⟨hlt, ⟨.slice av (recs s k ++ [recAt s k]).length cv, ?_, ?_, ?_, ?_, ?_⟩, by simpa using hsz4, fun b hb => ?_⟩
        · rw [heap_setCell_other _ _ _ _ (by simp; omega), heap_setCell_other _ _ _ _ (by simp), heap_setCell_same _ _ _ _ _ _ q1]; rfl
        · exact hown4.kept (fun g hg => hkeepset g (by have := (hown4.lt g hg).1; have := HV3.out; omega) (by have := (hown4.lt g hg).1; have := HV3.out; omega) (by have := (hown4.lt g hg).1; have := HV3.out; omega))
        · have : ((w4.setCell ⟨w.heap.size, 0, none⟩ (.slice av (recs s k ++ [recAt s k]).length cv))).heap[w.heap.size + 1]? = some (.cells #[.string ⟨(stt s k).1.toArray⟩] 9 (0, 0)) := by rw [heap_setCell_other _ _ _ _ (by simp)]; exact q2
          rw [heap_setCell_other _ _ _ _ (by simp), heap_setCell_same _ _ _ _ _ _ this]; rfl
        · have : ((w4.setCell ⟨w.heap.size, 0, none⟩ (.slice av (recs s k ++ [recAt s k]).length cv)).setCell ⟨w.heap.size + 1, 0, none⟩ (.string ⟨(stt s (k + 1)).1.toArray⟩)).heap[w.heap.size + 1 + 1]? = some (.cells #[.int .i64 (stt s k).2] 3 (0, 0)) := by rw [heap_setCell_other _ _ _ _ (by simp), heap_setCell_other _ _ _ _ (by simp; omega)]; exact q3
          rw [show w.heap.size + 2 = w.heap.size + 1 + 1 from rfl, heap_setCell_same _ _ _ _ _ _ this]; rfl
        · exact (((((bw.drew.alloc bw.drew.size _).grown hg4 (Nat.le_trans bw.size (by simp)) (fun g hg => by have := (HG.out g hg).1; have := HV3.out; omega)).setCell (by simp) _).setCell (by simp) _).setCell (by simp; omega) _)
        · have hb1 : b ≠ w.heap.size ∧ b ≠ w.heap.size + 1 ∧ b ≠ w.heap.size + 2 ∧ b < V.heap.size + 3 := by
            have := HKV.out.lt; have := HK.out.lt; have := JBS.out; have := HBS.out; have := HV3.out
            rcases hb with (rfl | rfl) | h <;> omega
          rw [hkeepset b hb1.1 hb1.2.1 hb1.2.2.1, hlow b hb1.2.2.2]
  · intro D W hD hI hh
    rename_i hcont
    refine hcont _ _ ?_
    clear hcont
    obtain ⟨lv, c1, ow, c2, c3, bw⟩ := hI
    have c3' : W.heap[w.heap.size + 1 + 1]? = some (.cells #[.int .i64 (stt s (many s)).2] 3 (0, 0)) := c3
    have HC1 := Lib.hid c1; have HC2 := Lib.hid c2; have HC3 := Lib.hid c3'; have HOW := Lib.hid ow; have HBW := Lib.hid bw; have HH := Lib.hid hh; have HD := Lib.hid hD
    clear c1 c2 c3 c3' ow bw hh hD
    have rows : ∀ w' : World, w'.heap[w.heap.size]? = some (.cells #[lv] 23 (0, 0)) ∧ w'.heap[w.heap.size + 1]? = some (.cells #[.string ⟨(stt s (many s)).1.toArray⟩] 9 (0, 0)) ∧ w'.heap[w.heap.size + 1 + 1]? = some (.cells #[.int .i64 (stt s (many s)).2] 3 (0, 0)) →
        w'.cell? ⟨w.heap.size, 0, none⟩ = some lv ∧ w'.cell? ⟨w.heap.size + 1, 0, none⟩ = some (.string ⟨(stt s (many s)).1.toArray⟩) ∧ w'.cell? ⟨w.heap.size + 1 + 1, 0, none⟩ = some (.int .i64 (stt s (many s)).2) ∧
        w'.frozen? ⟨w.heap.size, 0, none⟩ = false ∧ w'.frozen? ⟨w.heap.size + 1, 0, none⟩ = false ∧ w'.frozen? ⟨w.heap.size + 1 + 1, 0, none⟩ = false := fun w' ⟨h1, h2, h3⟩ =>
      ⟨by rw [cell_of_row _ _ _ _ _ _ h1]; rfl, by rw [cell_of_row _ _ _ _ _ _ h2]; rfl, by rw [cell_of_row _ _ _ _ _ _ h3]; rfl, frozen_of_row _ _ _ _ _ h1, frozen_of_row _ _ _ _ _ h2, frozen_of_row _ _ _ _ _ h3⟩
    obtain ⟨av, cv, hlv⟩ := HOW.out.form
    refine wpIn_seq (wpIn_wide.2 ?_)
    refine wp_region_noPanic ?_
    refine wp_region_held_drew (S := fun w' => w'.heap[w.heap.size]? = some (.cells #[lv] 23 (0, 0)) ∧ w'.heap[w.heap.size + 1]? = some (.cells #[.string ⟨(stt s (many s)).1.toArray⟩] 9 (0, 0)) ∧ w'.heap[w.heap.size + 1 + 1]? = some (.cells #[.int .i64 (stt s (many s)).2] 3 (0, 0))) (by kernel_rfl) ⟨HC1.out, HC2.out, HC3.out⟩ (fun hS => ?_)
    refine held_take 0 lv (oi := ⟨some 23, _, _, _, _, _⟩) rfl (by kernel_rfl) (by kernel_rfl) (by kernel_rfl) rfl (fun _ _ _ h => h) (by
      intro w' hSw
      obtain ⟨h1, h2, h3, -⟩ := rows w' hSw
      go_simp) hS ?_
    simp only [Act.put, List.setIfInBounds_toArray, List.set_cons_zero, List.set_cons_succ]
    refine held_take 1 (.string ⟨(stt s (many s)).1.toArray⟩) (oi := ⟨some 24, _, _, _, _, _⟩) rfl (by kernel_rfl) (by kernel_rfl) (by kernel_rfl) rfl (fun _ _ _ h => h) (by
      intro w' hSw
      obtain ⟨h1, h2, h3, -⟩ := rows w' hSw
      go_simp) hS ?_
    simp only [Act.put, List.setIfInBounds_toArray, List.set_cons_zero, List.set_cons_succ]
    refine held_take 2 (.int .i64 (stt s (many s)).2) (oi := ⟨some 25, _, _, _, _, _⟩) rfl (by kernel_rfl) (by kernel_rfl) (by kernel_rfl) rfl (fun _ _ _ h => h) (by
      intro w' hSw
      obtain ⟨h1, h2, h3, -⟩ := rows w' hSw
      go_simp) hS ?_
    simp only [Act.put, List.setIfInBounds_toArray, List.set_cons_zero, List.set_cons_succ]
    have set1 : ∀ w' : World, (w'.heap[w.heap.size]? = some (.cells #[lv] 23 (0, 0)) ∧ w'.heap[w.heap.size + 1]? = some (.cells #[.string ⟨(stt s (many s)).1.toArray⟩] 9 (0, 0)) ∧ w'.heap[w.heap.size + 1 + 1]? = some (.cells #[.int .i64 (stt s (many s)).2] 3 (0, 0))) →
        (∀ u, u = lv → (w'.setCell ⟨w.heap.size, 0, none⟩ u).heap[w.heap.size]? = some (.cells #[lv] 23 (0, 0)) ∧ (w'.setCell ⟨w.heap.size, 0, none⟩ u).heap[w.heap.size + 1]? = some (.cells #[.string ⟨(stt s (many s)).1.toArray⟩] 9 (0, 0)) ∧ (w'.setCell ⟨w.heap.size, 0, none⟩ u).heap[w.heap.size + 1 + 1]? = some (.cells #[.int .i64 (stt s (many s)).2] 3 (0, 0))) := by
      rintro w' ⟨h1, h2, h3⟩ u rfl
      refine ⟨?_, ?_, ?_⟩
      · rw [heap_setCell_same _ _ _ _ _ _ h1]; rfl
      · rw [heap_setCell_other _ _ _ _ (by simp)]; exact h2
      · rw [heap_setCell_other _ _ _ _ (by simp; omega)]; exact h3
    have set2 : ∀ w' : World, (w'.heap[w.heap.size]? = some (.cells #[lv] 23 (0, 0)) ∧ w'.heap[w.heap.size + 1]? = some (.cells #[.string ⟨(stt s (many s)).1.toArray⟩] 9 (0, 0)) ∧ w'.heap[w.heap.size + 1 + 1]? = some (.cells #[.int .i64 (stt s (many s)).2] 3 (0, 0))) →
        (w'.setCell ⟨w.heap.size + 1, 0, none⟩ (.string ⟨(stt s (many s)).1.toArray⟩)).heap[w.heap.size]? = some (.cells #[lv] 23 (0, 0)) ∧ (w'.setCell ⟨w.heap.size + 1, 0, none⟩ (.string ⟨(stt s (many s)).1.toArray⟩)).heap[w.heap.size + 1]? = some (.cells #[.string ⟨(stt s (many s)).1.toArray⟩] 9 (0, 0)) ∧ (w'.setCell ⟨w.heap.size + 1, 0, none⟩ (.string ⟨(stt s (many s)).1.toArray⟩)).heap[w.heap.size + 1 + 1]? = some (.cells #[.int .i64 (stt s (many s)).2] 3 (0, 0)) := by
      rintro w' ⟨h1, h2, h3⟩
      refine ⟨?_, ?_, ?_⟩
      · rw [heap_setCell_other _ _ _ _ (by simp)]; exact h1
      · rw [heap_setCell_same _ _ _ _ _ _ h2]; rfl
      · rw [heap_setCell_other _ _ _ _ (by simp)]; exact h3
    have set3 : ∀ w' : World, (w'.heap[w.heap.size]? = some (.cells #[lv] 23 (0, 0)) ∧ w'.heap[w.heap.size + 1]? = some (.cells #[.string ⟨(stt s (many s)).1.toArray⟩] 9 (0, 0)) ∧ w'.heap[w.heap.size + 1 + 1]? = some (.cells #[.int .i64 (stt s (many s)).2] 3 (0, 0))) →
        (w'.setCell ⟨w.heap.size + 1 + 1, 0, none⟩ (.int .i64 (stt s (many s)).2)).heap[w.heap.size]? = some (.cells #[lv] 23 (0, 0)) ∧ (w'.setCell ⟨w.heap.size + 1 + 1, 0, none⟩ (.int .i64 (stt s (many s)).2)).heap[w.heap.size + 1]? = some (.cells #[.string ⟨(stt s (many s)).1.toArray⟩] 9 (0, 0)) ∧ (w'.setCell ⟨w.heap.size + 1 + 1, 0, none⟩ (.int .i64 (stt s (many s)).2)).heap[w.heap.size + 1 + 1]? = some (.cells #[.int .i64 (stt s (many s)).2] 3 (0, 0)) := by
      rintro w' ⟨h1, h2, h3⟩
      refine ⟨?_, ?_, ?_⟩
      · rw [heap_setCell_other _ _ _ _ (by simp; omega)]; exact h1
      · rw [heap_setCell_other _ _ _ _ (by simp)]; exact h2
      · rw [heap_setCell_same _ _ _ _ _ _ h3]; rfl
    have S1 := Lib.hid (set1 _ hS lv rfl)
    have S2 := Lib.hid (set2 _ S1.out)
    have S3 := Lib.hid (set3 _ S2.out)
    clear set1 set2 set3
    subst hlv
    refine held_skip 3 (o := ⟨none, _, _, _, _, _⟩) (w' := W.drew.setCell ⟨w.heap.size, 0, none⟩ (.slice av (recs s (many s)).length cv)) (by kernel_rfl) rfl rfl (by
      obtain ⟨h1, h2, h3, h4, h5, h6⟩ := rows W ⟨HC1.out, HC2.out, HC3.out⟩
      go_simp) S1.out ?_
    simp only [Act.put]
    refine held_skip 4 (o := ⟨none, _, _, _, _, _⟩) (w' := (W.drew.setCell ⟨w.heap.size, 0, none⟩ (.slice av (recs s (many s)).length cv)).setCell ⟨w.heap.size + 1, 0, none⟩ (.string ⟨(stt s (many s)).1.toArray⟩)) (by kernel_rfl) rfl rfl (by
      obtain ⟨h1, h2, h3, h4, h5, h6⟩ := rows W ⟨HC1.out, HC2.out, HC3.out⟩
      go_simp) S2.out ?_
    simp only [Act.put]
    refine held_skip 5 (o := ⟨none, _, _, _, _, _⟩) (w' := ((W.drew.setCell ⟨w.heap.size, 0, none⟩ (.slice av (recs s (many s)).length cv)).setCell ⟨w.heap.size + 1, 0, none⟩ (.string ⟨(stt s (many s)).1.toArray⟩)).setCell ⟨w.heap.size + 1 + 1, 0, none⟩ (.int .i64 (stt s (many s)).2)) (by kernel_rfl) rfl rfl (by
      obtain ⟨h1, h2, h3, h4, h5, h6⟩ := rows W ⟨HC1.out, HC2.out, HC3.out⟩
      go_simp) S3.out ?_
    simp only [Act.put]
    refine wpAnyH_done (by kernel_rfl) ?_ _
    refine NoPanic.normal ?_
    have HH2 : Hid ((((W.drew.setCell ⟨w.heap.size, 0, none⟩ (.slice av (recs s (many s)).length cv)).setCell ⟨w.heap.size + 1, 0, none⟩ (.string ⟨(stt s (many s)).1.toArray⟩)).setCell ⟨w.heap.size + 1 + 1, 0, none⟩ (.int .i64 (stt s (many s)).2)).heap[D]? = some (.deferred (some []))) := by
      show _ = _
      have := HD.out; have := HV3.out
      rw [heap_setCell_other _ _ _ _ (by simp; omega), heap_setCell_other _ _ _ _ (by simp; omega), heap_setCell_other _ _ _ _ (by simp; omega)]
      exact HH.out
    have HBW2 : Hid (Below w.heap.size w (((W.drew.setCell ⟨w.heap.size, 0, none⟩ (.slice av (recs s (many s)).length cv)).setCell ⟨w.heap.size + 1, 0, none⟩ (.string ⟨(stt s (many s)).1.toArray⟩)).setCell ⟨w.heap.size + 1 + 1, 0, none⟩ (.int .i64 (stt s (many s)).2))) :=
      ((HBW.out.drew.setCell (by simp) _).setCell (by simp) _).setCell (by simp; omega) _
    have HOW2 : Hid (OwnS (((W.drew.setCell ⟨w.heap.size, 0, none⟩ (.slice av (recs s (many s)).length cv)).setCell ⟨w.heap.size + 1, 0, none⟩ (.string ⟨(stt s (many s)).1.toArray⟩)).setCell ⟨w.heap.size + 1 + 1, 0, none⟩ (.int .i64 (stt s (many s)).2)) (V.heap.size + 3) (.slice av (recs s (many s)).length cv) (recs s (many s))) :=
      HOW.out.kept (fun g hg => by
        have := (HOW.out.lt g hg).1; have := HV3.out
        rw [heap_setCell_other _ _ _ _ (by simp; omega), heap_setCell_other _ _ _ _ (by simp; omega), heap_setCell_other _ _ _ _ (by simp; omega)]
        rfl)
    generalize ((W.drew.setCell ⟨w.heap.size, 0, none⟩ (.slice av (recs s (many s)).length cv)).setCell ⟨w.heap.size + 1, 0, none⟩ (.string ⟨(stt s (many s)).1.toArray⟩)).setCell ⟨w.heap.size + 1 + 1, 0, none⟩ (.int .i64 (stt s (many s)).2) = W5 at *
    clear S1 S2 hS
    change Code.wpIn _ _ _ _ _ _ _
    gi_wp2_with fail
    obtain ⟨n1, n2, n3⟩ := S3.out
    have hDV : D = V.heap.size := HD.out
    have hV3 := HV3.out
    have m1 : (W5.putObj D (.deferred none)).cell? ⟨w.heap.size, 0, none⟩ = some (.slice av (recs s (many s)).length cv) := by rw [cell_of_row _ _ _ _ _ _ ((World.putObj_heap_other (by omega)).trans n1)]; rfl
    have m2 : (W5.putObj D (.deferred none)).cell? ⟨w.heap.size + 1, 0, none⟩ = some (.string ⟨(stt s (many s)).1.toArray⟩) := by rw [cell_of_row _ _ _ _ _ _ ((World.putObj_heap_other (by omega)).trans n2)]; rfl
    have m3 : (W5.putObj D (.deferred none)).cell? ⟨w.heap.size + 1 + 1, 0, none⟩ = some (.int .i64 (stt s (many s)).2) := by rw [cell_of_row _ _ _ _ _ _ ((World.putObj_heap_other (by omega)).trans n3)]; rfl
    refine ⟨by simp, .inl ⟨_, _, rfl, run_takeDeferred HH2.out, ?_⟩⟩
    refine ⟨.tuple #[.slice av (recs s (many s)).length cv, .string ⟨(stt s (many s)).1.toArray⟩, .int .i64 (stt s (many s)).2], ?_, ?_⟩
    · refine results_cells3 (p := 2) (q := 3) (r := 4) rfl _ _ rfl rfl rfl (loadVar_one Tryd.underlying23 rfl m1) (loadVar_one Tryd.underlying9 rfl m2) (loadVar_one Tryd.underlying3 rfl m3)
    · refine ⟨_, rfl, OwnS.isStrs (HOW2.out.kept (fun g hg => World.putObj_heap_other (by have := (HOW2.out.lt g hg).1; omega))), ?_⟩
      exact HBW2.out.grown (grownBy_putObj' W5 D _) HBW2.out.size (fun k e => by have := Option.some.inj e; omega)
end Go.Proofs.YtdmoolfalcdbjaaDoor

/- The walk of octet's ReadRow. -/
import Derived.Test.YtegcpedgdldodaaOctEach
import Derived.Test.YtegcpedgdldodaaOwnS
import Derived.Test.YtegcpedgdldodaaHeld
import Derived.Test.YtegcpedgdldodaaScope
import Derived.Shelf.Abstract
namespace Go.Proofs.Ytegcpedgdldodaa
set_option linter.unusedVariables false
set_option linter.unusedSimpArgs false
open Go.RowKit Go.Shelf Oct
attribute [local go_sem] Oper.semAt_some

theorem zip_oneR (p : Tmp) (v : Value) (t : Array Value) : ((#[p] : Array Tmp).zip #[v]).foldl (fun t (p, v) => t.setIfInBounds p v) t = t.setIfInBounds p v := by simp
theorem loadVar_oneR {P : Program} {ty : TypeId} {a : Addr} {w : World} {v : Value} {d : TypeDesc} (hu : P.underlying ty = some d) (hd : (match d with | .struct _ | .array _ _ => true | _ => false) = false) (hc : w.cell? a = some v) : (loadVar ty a).run P w = .ok v w := by
  have hagg : (isAgg ty).run P w = .ok false w := by
    unfold isAgg
    rw [Sem.run_bind, run_underlying hu w]
    cases d <;> simp_all
  simp [loadVar, Sem.run_bind, hagg, hc]
theorem results_cells3R {P : Program} {fn : Func} {p q r : Tmp} {s t u : TypeId} (h : fn.results = #[.cell p s, .cell q t, .cell r u]) (tmps : Array Value) (w : World) {a b c : Addr} {x y z : Value}
    (hp : tmps.getD p undef = .pointer (some a)) (hq : tmps.getD q undef = .pointer (some b)) (hr : tmps.getD r undef = .pointer (some c))
    (h1 : (loadVar s a).run P w = .ok x w) (h2 : (loadVar t b).run P w = .ok y w) (h3 : (loadVar u c).run P w = .ok z w) : (results fn tmps).run P w = .ok (.tuple #[x, y, z]) w := by
  simp only [results, h]
  simp [Sem.run_bind, asAddr, -Array.getD_eq_getD_getElem?, hp, hq, hr, h1, h2, h3, Result.andThen]
def oneC (r : List UInt8) (q e : Nat) : Array Value := #[.string ⟨r.toArray⟩, .int .i64 q, .int .i64 e]
theorem oneV_eq (r : List UInt8) (q e : Nat) : oneV r q e = .agg (oneC r q e) := rfl
theorem oneC_one (r : List UInt8) (q e : Nat) : (oneC r q e).all (·.oneCell') = true := by simp [oneC, Value.oneCell']
theorem zero_one : ∀ w, (zeroValue 50).run Try.prog w = .ok (.agg (oneC [] 0 0)) w := fun w => by kernel_rfl
theorem size_one : (Try.prog.info? 50).map (·.size) = some 3 := by kernel_rfl

/-- what lies between the rounds: count, the texts, the place, the error. -/
def RowI (s : List UInt8) (most : Int) (c : Nat) (w V : World) (k : Nat) (W : World) : Prop :=
  ∃ lv, W.heap[w.heap.size]? = some (.cells #[.int .i64 c] 3 (0, 0)) ∧ W.heap[w.heap.size + 1]? = some (.cells #[lv] 34 (0, 0)) ∧ OwnS W (V.heap.size + 2) lv (txs s most k) ∧
    W.heap[w.heap.size + 2]? = some (.cells #[.int .i64 0] 3 (0, 0)) ∧ (∃ e0 : Nat, W.heap[w.heap.size + 3]? = some (.cells #[.int .i64 e0] 24 (0, 0))) ∧ Below w.heap.size w W
theorem RowI.stable (s : List UInt8) (most : Int) (c : Nat) (w V : World) (hV : w.heap.size + 4 ≤ V.heap.size) (k : Nat) : Stable V.heap.size (V.heap.size + 1) (RowI s most c w V k) := by
  rintro A B row ⟨lv, h1, h2, h3, h4, ⟨e0, h5⟩, h6⟩ hg hr
  have hne : ∀ b, b < V.heap.size → some b ≠ row := fun b hb e => by have := hr b e.symm; omega
  refine ⟨lv, (hg.block _ (lt_of_block h1) (hne _ (by omega))).trans h1, (hg.block _ (lt_of_block h2) (hne _ (by omega))).trans h2, h3.kept (fun g hgg => hg.block g (h3.lt g hgg).2 (fun e => by have := hr g e.symm; have := (h3.lt g hgg).1; omega)), (hg.block _ (lt_of_block h4) (hne _ (by omega))).trans h4, ⟨e0, (hg.block _ (lt_of_block h5) (hne _ (by omega))).trans h5⟩, ?_⟩
  exact h6.grown hg h6.size (fun r e => by have := hr r e; omega)
/-- what lies behind the loop. -/
def RowX (s : List UInt8) (most : Int) (c : Nat) (w V : World) (W : World) : Prop :=
  ∃ lv L N E, W.heap[w.heap.size + 1]? = some (.cells #[lv] 34 (0, 0)) ∧ OwnS W (V.heap.size + 2) lv L ∧
    W.heap[w.heap.size + 2]? = some (.cells #[.int .i64 ((N : Nat) : Int)] 3 (0, 0)) ∧ W.heap[w.heap.size + 3]? = some (.cells #[.int .i64 ((E : Nat) : Int)] 24 (0, 0)) ∧ Below w.heap.size w W ∧
    readRow s c most = (if E = 0 then (L, N, 0) else ([], 0, E))
theorem RowX.stable (s : List UInt8) (most : Int) (c : Nat) (w V : World) (hV : w.heap.size + 4 ≤ V.heap.size) : Stable V.heap.size (V.heap.size + 1) (RowX s most c w V) := by
  rintro A B row ⟨lv, L, N, E, h2, h3, h4, h5, h6, h7⟩ hg hr
  have hne : ∀ b, b < V.heap.size → some b ≠ row := fun b hb e => by have := hr b e.symm; omega
  refine ⟨lv, L, N, E, (hg.block _ (lt_of_block h2) (hne _ (by omega))).trans h2, h3.kept (fun g hgg => hg.block g (h3.lt g hgg).2 (fun e => by have := hr g e.symm; have := (h3.lt g hgg).1; omega)), (hg.block _ (lt_of_block h4) (hne _ (by omega))).trans h4, (hg.block _ (lt_of_block h5) (hne _ (by omega))).trans h5, ?_, h7⟩
  exact h6.grown hg h6.size (fun r e => by have := hr r e; omega)

/-- the three answers' cells. -/
def Rows3 (b : Nat) (lv : Value) (N E : Int) (w : World) : Prop :=
  w.heap[b + 1]? = some (.cells #[lv] 34 (0, 0)) ∧ w.heap[b + 1 + 1]? = some (.cells #[.int .i64 N] 3 (0, 0)) ∧ w.heap[b + 1 + 1 + 1]? = some (.cells #[.int .i64 E] 24 (0, 0))
theorem Rows3.cells {b : Nat} {lv : Value} {N E : Int} {w : World} (h : Rows3 b lv N E w) : w.cell? ⟨b + 1, 0, none⟩ = some lv ∧ w.cell? ⟨b + 1 + 1, 0, none⟩ = some (.int .i64 N) ∧ w.cell? ⟨b + 1 + 1 + 1, 0, none⟩ = some (.int .i64 E) ∧
    w.frozen? ⟨b + 1, 0, none⟩ = false ∧ w.frozen? ⟨b + 1 + 1, 0, none⟩ = false ∧ w.frozen? ⟨b + 1 + 1 + 1, 0, none⟩ = false := by
  obtain ⟨h1, h2, h3⟩ := h
  exact ⟨by rw [cell_of_row _ _ _ _ _ _ h1]; rfl, by rw [cell_of_row _ _ _ _ _ _ h2]; rfl, by rw [cell_of_row _ _ _ _ _ _ h3]; rfl, frozen_of_row _ _ _ _ _ h1, frozen_of_row _ _ _ _ _ h2, frozen_of_row _ _ _ _ _ h3⟩
theorem Rows3.set1 {b : Nat} {lv : Value} {N E : Int} {w : World} (h : Rows3 b lv N E w) (u : Value) : Rows3 b u N E (w.setCell ⟨b + 1, 0, none⟩ u) := by
  obtain ⟨h1, h2, h3⟩ := h
  refine ⟨?_, ?_, ?_⟩
  · rw [heap_setCell_same _ _ _ _ _ _ h1]; rfl
  · rw [heap_setCell_other _ _ _ _ (by simp)]; exact h2
  · rw [heap_setCell_other _ _ _ _ (by simp; try omega)]; exact h3
theorem Rows3.set2 {b : Nat} {lv : Value} {N E : Int} {w : World} (h : Rows3 b lv N E w) (u : Int) : Rows3 b lv u E (w.setCell ⟨b + 1 + 1, 0, none⟩ (.int .i64 u)) := by
  obtain ⟨h1, h2, h3⟩ := h
  refine ⟨?_, ?_, ?_⟩
  · rw [heap_setCell_other _ _ _ _ (by simp; try omega)]; exact h1
  · rw [heap_setCell_same _ _ _ _ _ _ h2]; rfl
  · rw [heap_setCell_other _ _ _ _ (by simp; try omega)]; exact h3
theorem Rows3.set3 {b : Nat} {lv : Value} {N E : Int} {w : World} (h : Rows3 b lv N E w) (u : Int) : Rows3 b lv N u (w.setCell ⟨b + 1 + 1 + 1, 0, none⟩ (.int .i64 u)) := by
  obtain ⟨h1, h2, h3⟩ := h
  refine ⟨?_, ?_, ?_⟩
  · rw [heap_setCell_other _ _ _ _ (by simp; try omega)]; exact h1
  · rw [heap_setCell_other _ _ _ _ (by simp; try omega)]; exact h2
  · rw [heap_setCell_same _ _ _ _ _ _ h3]; rfl

/-- what ReadRow answers. -/
def RowRead (s : List UInt8) (most : Int) (c : Nat) (w : World) (e : Ending) (w' : World) : Prop :=
  ∃ lv, e = .returned (.tuple #[lv, .int .i64 (readRow s c most).2.1, .int .i64 (readRow s c most).2.2]) ∧ IsStrs w' lv (readRow s c most).1 ∧ Below w.heap.size w w'

set_option maxRecDepth 20000 in
set_option maxHeartbeats 4000000 in
theorem readrow_any (c : Nat) (s : List UInt8) (hs : s.length < 100000000) (most : Int) (hmo : most ≤ 9223372036854775807) (K : Nat) (hKF : ferr s most K = 0) (hKE : er s most K ≠ 0 ∨ (er s most K = 0 ∧ K + 1 = c)) (hKc : K < c) (hc : (c : Int) ≤ 9223372036854775807) (w : World) :
    Calls Try.prog 22 #[.string ⟨s.toArray⟩, .int .i64 c, .int .i64 most] w (RowRead s most c w) := by
  have HKF := Lib.hid hKF
  have HKE := Lib.hid hKE
  have HKC := Lib.hid hKc
  clear hKF hKE
  have hc0 : ¬ (c : Int) ≤ 0 := by omega
  have hc1 : decide ((c : Int) ≤ 0) = false := by rw [decide_eq_false_iff_not]; exact hc0
  refine (callsIn_wide (n := 0)).1 (callsIn_of_wp_marks Try.func22 rfl trivial ?_ rfl)
  simp only [Try.ntmps22, List.size_toArray, List.length_cons, List.length_nil, Nat.reduceAdd, Nat.reduceSub, Array.replicate_succ, Array.replicate_zero, List.push_toArray, List.append_toArray, List.nil_append, List.cons_append]
  gi_wp2_with fail
  refine wpIn_scope_straight ?_
  gi_wp2_with fail
  have HB0 : Hid (Below w.heap.size w ((((w.alloc (.cells #[.int .i64 c] 3)).alloc (.cells #[.slice none 0 0] 34)).alloc (.cells #[.int .i64 0] 3)).alloc (.cells #[.int .i64 0] 24))) := ((((Below.refl _ _).alloc (Nat.le_refl _) _).alloc (by simp) _).alloc (by simp; omega) _).alloc (by simp; omega) _
  have H0 : Hid (((((w.alloc (.cells #[.int .i64 c] 3)).alloc (.cells #[.slice none 0 0] 34)).alloc (.cells #[.int .i64 0] 3)).alloc (.cells #[.int .i64 0] 24)).heap[w.heap.size]? = some (.cells #[.int .i64 c] 3 (0, 0))) := by
    show _ = _
    rw [heap_alloc_old _ _ (by simp; try omega), heap_alloc_old _ _ (by simp; try omega), heap_alloc_old _ _ (by simp; try omega), heap_alloc_new]
  have H1 : Hid (((((w.alloc (.cells #[.int .i64 c] 3)).alloc (.cells #[.slice none 0 0] 34)).alloc (.cells #[.int .i64 0] 3)).alloc (.cells #[.int .i64 0] 24)).heap[w.heap.size + 1]? = some (.cells #[.slice none 0 0] 34 (0, 0))) := by
    show _ = _
    rw [heap_alloc_old _ _ (by simp; try omega), heap_alloc_old _ _ (by simp; try omega)]
    have := heap_alloc_new (w.alloc (.cells #[.int .i64 c] 3)) (.cells #[.slice none 0 0] 34)
    rwa [World.size_alloc] at this
  have H2 : Hid (((((w.alloc (.cells #[.int .i64 c] 3)).alloc (.cells #[.slice none 0 0] 34)).alloc (.cells #[.int .i64 0] 3)).alloc (.cells #[.int .i64 0] 24)).heap[w.heap.size + 2]? = some (.cells #[.int .i64 0] 3 (0, 0))) := by
    show _ = _
    rw [heap_alloc_old _ _ (by simp)]
    have := heap_alloc_new ((w.alloc (.cells #[.int .i64 c] 3)).alloc (.cells #[.slice none 0 0] 34)) (.cells #[.int .i64 0] 3)
    rw [World.size_alloc, World.size_alloc] at this
    exact this
  have H3 : Hid (((((w.alloc (.cells #[.int .i64 c] 3)).alloc (.cells #[.slice none 0 0] 34)).alloc (.cells #[.int .i64 0] 3)).alloc (.cells #[.int .i64 0] 24)).heap[w.heap.size + 3]? = some (.cells #[.int .i64 0] 24 (0, 0))) := by
    have := heap_alloc_new (((w.alloc (.cells #[.int .i64 c] 3)).alloc (.cells #[.slice none 0 0] 34)).alloc (.cells #[.int .i64 0] 3)) (.cells #[.int .i64 0] 24)
    rw [World.size_alloc, World.size_alloc, World.size_alloc] at this
    exact this
  generalize (((w.alloc (.cells #[.int .i64 c] 3)).alloc (.cells #[.slice none 0 0] 34)).alloc (.cells #[.int .i64 0] 3)).alloc (.cells #[.int .i64 0] 24) = w2 at *
  refine wpIn_label ?_
  gi_wp2_with fail
  refine ⟨trivial, rfl, ?_⟩
  refine (callsIn_wide.2 (each_any s most w2)).mono ?_; rintro e w3 ⟨rfl, rfl⟩
  gi_wp2_with fail
  have HL2 : Hid (w.heap.size + 4 ≤ w2.heap.size) := lt_of_block H3.out
  obtain ⟨V, hV⟩ : ∃ V, V = (w2.alloc (.cells #[.string ⟨s.toArray⟩] 9)).alloc (.cells #[.int .i64 most] 3) := ⟨_, rfl⟩
  have VO : Hid (∀ b, b < w2.heap.size → V.heap[b]? = w2.heap[b]?) := fun b hb => by rw [hV, heap_alloc_old _ _ (by simp; omega), heap_alloc_old _ _ hb]
  have VB1 : Hid (V.heap[w2.heap.size]? = some (.cells #[.string ⟨s.toArray⟩] 9 (0, 0))) := by show _ = _; rw [hV, heap_alloc_old _ _ (by simp), heap_alloc_new]
  have VB2 : Hid (V.heap[w2.heap.size + 1]? = some (.cells #[.int .i64 most] 3 (0, 0))) := by
    show _ = _; rw [hV]
    have := heap_alloc_new (w2.alloc (.cells #[.string ⟨s.toArray⟩] 9)) (.cells #[.int .i64 most] 3)
    rwa [World.size_alloc] at this
  have VW : Hid (Below w.heap.size w V) := by show Below _ _ _; rw [hV]; exact (HB0.out.alloc HB0.out.size _).alloc (by have := HB0.out.size; simp; omega) _
  have HV4 : Hid (w.heap.size + 4 ≤ V.heap.size) := by show _ ≤ _; rw [hV]; have := HL2.out; simp; omega
  have HVL : Hid (w2.heap.size + 1 < V.heap.size) := lt_of_block VB2.out
  rw [← hV]
  clear hV
  have HI0 : Hid (RowI s most c w V 0 V) := ⟨_, (VO.out _ (lt_of_block H0.out)).trans H0.out, (VO.out _ (lt_of_block H1.out)).trans H1.out, OwnS.nil _ _, (VO.out _ (lt_of_block H2.out)).trans H2.out, ⟨0, (VO.out _ (lt_of_block H3.out)).trans H3.out⟩, VW.out⟩
  generalize w2.heap.size = bs at *
  clear HB0 H0 H1 H2 H3 VO
  refine wpIn_rangeFunc_break0 (gf := 26) (lb := #[.pointer (some ⟨bs, 0, none⟩), .pointer (some ⟨bs + 1, 0, none⟩)]) rfl (enters_of Try.func26 (by kernel_rfl) rfl) (el := elO s most) (K := K) (keep := fun b => b = bs ∨ b = bs + 1) ?_ 0 ?_ ?_ (RowI s most c w V) (RowX s most c w V) (RowI.stable s most c w V HV4.out) (RowX.stable s most c w V HV4.out) HI0.out ?_ ?_
  · rintro b (rfl | rfl)
    · have := HVL.out; omega
    · exact HVL.out
  · intro W0 hg hs0
    exact each_hands s hs most hmo K HKF.out bs (bs + 1) W0 ((hg.block bs (by have := HVL.out; omega) (by simp)).trans VB1.out) ((hg.block (bs + 1) HVL.out (by simp)).trans VB2.out)
  · intro k; rfl
  · intro l k W hl hk hlt hI
    have HI := Lib.hid hI
    have HL := Lib.hid hl
    have HLT := Lib.hid hlt
    have HKM := Lib.hid hk
    clear hI hlt
    obtain ⟨r, q, e, hel, hr, hq, he⟩ : ∃ r q e, elO s most k = #[oneV r q e] ∧ r = tx s most k ∧ q = plc s most (k + 1) ∧ e = er s most k := ⟨_, _, _, rfl, rfl, rfl, rfl⟩
    rw [hel]
    simp only [zip_oneR, List.setIfInBounds_toArray, List.set_cons_zero, List.set_cons_succ]
    refine round_region_list (ls := [_, _]) rfl (by rintro ⟨a, w, h⟩; exact h) ?_
    refine wpList_alloc_row rfl 50 rfl _ zero_one ?_
    refine wpList_store_row rfl 50 (.tmp 9) (.tmp 15) rfl W.heap.size rfl (oneC r q e) (oneC [] 0 0) rfl _ (heap_alloc_new _ _) rfl size_one (oneC_one _ _ _) ?_
    rw [alloc_setRow]
    have HW := Lib.hid (heap_alloc_new W (.cells (oneC r q e) 50))
    have HI1 : Hid (RowI s most c w V k (W.alloc (.cells (oneC r q e) 50))) := (RowI.stable s most c w V HV4.out k).alloc _ HI.out
    refine ⟨⟨by simp, fun b hb => ?_⟩, ?_⟩
    · refine heap_alloc_old _ _ ?_
      have := HLT.out; have := HVL.out
      rcases hb with (rfl | rfl) | h <;> omega
    intro W2 hg2
    have HI2 := Lib.hid ((RowI.stable s most c w V HV4.out k) _ _ _ HI1.out hg2 (fun r e => by cases e; have := HL.out; omega))
    have HW2 := Lib.hid ((hg2.block _ (lt_of_block HW.out) (fun e => by have := Option.some.inj e; have := HL.out; have := HLT.out; omega)).trans HW.out)
    have HSZ : Hid (W.heap.size < W2.heap.size) := lt_of_block HW2.out
    have HR := Lib.hid hr
    have HQ := Lib.hid hq
    have HE := Lib.hid he
    have HLV : Hid (∀ lv, W2.heap[w.heap.size + 1]? = some (.cells #[lv] 34 (0, 0)) → ∀ g, lv.ownBlock = some g → g < W.heap.size) := by
      intro lv hlv g hg
      obtain ⟨lv1, _, c1, ow, _⟩ := HI.out
      have e := (hg2.block (w.heap.size + 1) (by have := lt_of_block c1; simp; omega) (fun e => by have := Option.some.inj e; have := HL.out; have := HV4.out; omega)).trans ((heap_alloc_old W (.cells (oneC r q e) 50) (lt_of_block c1)).trans c1)
      rw [e] at hlv
      simp only [Option.some.injEq, Obj.cells.injEq] at hlv
      obtain rfl : lv1 = lv := by simpa using hlv.1
      exact (ow.lt g hg).2
    clear hg2 HI1 HW hr hq he hel
    obtain ⟨lv, c0, c1, ow, c2, ⟨e0, c3⟩, bw⟩ := HI2.out
    have HOW := Lib.hid ow
    have HC0 := Lib.hid c0
    have HC1 := Lib.hid c1
    have HC2 := Lib.hid c2
    have HC3 := Lib.hid c3
    have HBW := Lib.hid bw
    have HG := Lib.hid ow.lt
    have d0 : W2.cell? ⟨W.heap.size, 0, none⟩ = some (.string ⟨r.toArray⟩) := by rw [cell_of_row _ _ _ _ _ _ HW2.out]; rfl
    have d2 : W2.cell? ⟨W.heap.size, 2, none⟩ = some (.int .i64 e) := by rw [cell_of_row _ _ _ _ _ _ HW2.out]; rfl
    have f3 : W2.cell? ⟨w.heap.size + 1 + 1 + 1, 0, none⟩ = some (.int .i64 e0) := by rw [cell_of_row _ _ _ _ _ _ (show W2.heap[w.heap.size + 1 + 1 + 1]? = _ from c3)]; rfl
    have g3 : W2.frozen? ⟨w.heap.size + 1 + 1 + 1, 0, none⟩ = false := frozen_of_row _ _ _ _ _ (show W2.heap[w.heap.size + 1 + 1 + 1]? = _ from c3)
    obtain ⟨W3, hW3⟩ : ∃ W3, W3 = W2.setCell ⟨w.heap.size + 1 + 1 + 1, 0, none⟩ (.int .i64 e) := ⟨_, rfl⟩
    have W3O : Hid (∀ b, b ≠ w.heap.size + 3 → W3.heap[b]? = W2.heap[b]?) := fun b hb => by rw [hW3, heap_setCell_other _ _ _ _ (by exact hb)]
    have W3E : Hid (W3.heap[w.heap.size + 3]? = some (.cells #[.int .i64 e] 24 (0, 0))) := by
      show _ = _
      rw [hW3, show w.heap.size + 3 = w.heap.size + 1 + 1 + 1 from rfl, heap_setCell_same _ _ _ _ _ _ (show W2.heap[w.heap.size + 1 + 1 + 1]? = _ from c3)]; rfl
    have W3Z : Hid (W3.heap.size = W2.heap.size) := by show _ = _; rw [hW3]; simp
    have W3B : Hid (Below w.heap.size w W3) := by show Below _ _ _; rw [hW3]; exact bw.setCell (by simp; omega) _
    have HWw : Hid (w.heap.size + 3 < W.heap.size) := by have := HV4.out; have := HLT.out; show _ < _; omega
    have OW3 : Hid (OwnS W3 (V.heap.size + 2) lv (txs s most k)) := ow.kept (fun g hg => W3O.out g (by have := (HG.out g hg).1; have := HV4.out; omega))
    have h3e : (W2.setCell ⟨w.heap.size + 1 + 1 + 1, 0, none⟩ (.int .i64 e)).cell? ⟨w.heap.size + 1 + 1 + 1, 0, none⟩ = some (.int .i64 e) := by rw [← hW3, cell_of_row _ _ _ _ _ _ (show W3.heap[w.heap.size + 1 + 1 + 1]? = _ from W3E.out)]; rfl
    have h3r : (W2.setCell ⟨w.heap.size + 1 + 1 + 1, 0, none⟩ (.int .i64 e)).cell? ⟨W.heap.size, 0, none⟩ = some (.string ⟨r.toArray⟩) := by rw [← hW3, cell_of_row _ _ _ _ _ _ ((W3O.out _ (by have := HWw.out; omega)).trans HW2.out)]; rfl
    have hK2 : ∀ W' : World, (∀ b, b < W2.heap.size → b ≠ w.heap.size + 1 → b ≠ w.heap.size + 2 → b ≠ w.heap.size + 3 → (∀ g, lv.ownBlock = some g → b ≠ g) → W'.heap[b]? = W2.heap[b]?) → W2.heap.size ≤ W'.heap.size → Kept (Own2 (fun b => b = bs ∨ b = bs + 1) V.heap.size) W2 W' := by
      intro W' h hz
      refine ⟨hz, fun b hb => ?_⟩
      have hVL := HVL.out; have hLT := HLT.out; have hSZ := HSZ.out; have hL2 := HL2.out
      have hbV : b < V.heap.size + 2 := by rcases hb with (rfl | rfl) | hb <;> omega
      exact h b (by omega) (by rcases hb with (rfl | rfl) | hb <;> omega) (by rcases hb with (rfl | rfl) | hb <;> omega) (by rcases hb with (rfl | rfl) | hb <;> omega) (fun g hg => by have := (HG.out g hg).1; omega)
    have HK2 := Lib.hid hK2
    clear hK2 ow c0 c1 c2 c3 bw
    by_cases he : e = 0
    · have x1 : ((e : Int) != 0) = false := by rw [bne_eq_false_iff_eq]; omega
      have x2 : (e != 0) = false := by rw [bne_eq_false_iff_eq]; exact he
      have HE0 := Lib.hid he
      clear he
      have f1 : W2.cell? ⟨w.heap.size + 1, 0, none⟩ = some lv := by rw [cell_of_row _ _ _ _ _ _ HC1.out]; rfl
      have W3C := Lib.hid (heap_alloc_new W3 (.cells #[.string ⟨r.toArray⟩] 9))
      have W4O : Hid (∀ b, b < W2.heap.size → (W3.alloc (.cells #[.string ⟨r.toArray⟩] 9)).heap[b]? = W3.heap[b]?) := fun b hb => heap_alloc_old W3 _ (by rw [W3Z.out]; exact hb)
      obtain ⟨i0, hi, hz0, hz1, hz2⟩ := info_parts info_str
      have how : OwnS (W3.alloc (.cells #[.string ⟨r.toArray⟩] 9)) (V.heap.size + 2) lv (txs s most k) := OW3.out.kept (fun g hg => W4O.out g (HG.out g hg).2)
      have hx : IsStrs (W3.alloc (.cells #[.string ⟨r.toArray⟩] 9)) (.slice (some ⟨W2.heap.size, 0, none⟩) 1 1) [r] := by
        refine .inr ⟨W2.heap.size, 0, 1, rfl, by simp, by simp, by unfold maxLen; omega, by have := W3Z.out; simp; omega, fun i hi => ?_⟩
        obtain rfl : i = 0 := by simpa using hi
        have hh := W3C.out
        rw [W3Z.out] at hh
        rw [cell_of_row _ _ _ _ _ _ hh]
        rfl
      have hkb : k ≤ s.length := by
        have h1 := HE.out
        have h2 : ferr s most k = 0 := by
          rcases Nat.lt_or_ge k K with h | h
          · exact (ferr_zero s most K k HKF.out h).2
          · obtain rfl : k = K := by have := HKM.out; omega
            exact HKF.out
        have := plc_ge s most k h2
        have := plc_le s most k
        omega
      have hlen : (txs s most k ++ [r]).length = k + 1 := by rw [List.length_append, txs_length]; rfl
      obtain ⟨v', w4, hr, hown4, hg4⟩ := run_append_strs (P := Try.prog) _ 34 34 i0 Try.underlying34 hi hz0 hz1 hz2 (V.heap.size + 2) (by have := HLT.out; have := HSZ.out; have := W3Z.out; simp; omega) lv (txs s most k) how _ _ hx (by rw [txs_length]; simp; omega)
      have W4B : Hid (∀ b, b < W2.heap.size → b ≠ w.heap.size + 3 → (∀ g, lv.ownBlock = some g → b ≠ g) → w4.heap[b]? = W2.heap[b]?) := fun b hb h3 hne => by
        rw [hg4.block b (by have := W3Z.out; simp; omega) (fun e => hne b e.symm rfl), W4O.out b hb, W3O.out b h3]
      have W4E : Hid (w4.heap[w.heap.size + 3]? = some (.cells #[.int .i64 e] 24 (0, 0))) := by
        show _ = _
        have hSZ := HSZ.out; have hWw := HWw.out
        rw [hg4.block _ (by have := W3Z.out; simp; omega) (fun e => by have := (HG.out _ e.symm).1; have := HV4.out; omega), W4O.out _ (by omega)]
        exact W3E.out
      have W4W : Hid (Below w.heap.size w w4) := (W3B.out.alloc W3B.out.size _).grown hg4 (Nat.le_trans W3B.out.size (by simp)) (fun g hg => by have := (HG.out g hg).1; have := HV4.out; omega)
      have W4S : Hid (W2.heap.size ≤ w4.heap.size) := by have := hg4.size; have h := W3Z.out; simp at this; show _ ≤ _; omega
      have hlow : ∀ b, b < V.heap.size + 2 → b ≠ w.heap.size + 3 → w4.heap[b]? = W2.heap[b]? := fun b hb h3 => W4B.out b (by have := HLT.out; have := HSZ.out; omega) h3 (fun g hg => by have := (HG.out g hg).1; omega)
      have hV4 := HV4.out
      have q0 : w4.heap[w.heap.size]? = some (.cells #[.int .i64 c] 3 (0, 0)) := (hlow _ (by omega) (by omega)).trans HC0.out
      have q1 : w4.heap[w.heap.size + 1]? = some (.cells #[lv] 34 (0, 0)) := (hlow _ (by omega) (by omega)).trans HC1.out
      have q2 : w4.heap[w.heap.size + 1 + 1]? = some (.cells #[.int .i64 0] 3 (0, 0)) := (hlow _ (by omega) (by omega)).trans HC2.out
      have q9 : w4.heap[W.heap.size]? = some (.cells (oneC r q e) 50 (0, 0)) := (W4B.out _ HSZ.out (by have := HWw.out; omega) (fun g hg => Nat.ne_of_gt (HLV.out lv HC1.out g hg))).trans HW2.out
      have k0 : w4.cell? ⟨w.heap.size, 0, none⟩ = some (.int .i64 c) := by rw [cell_of_row _ _ _ _ _ _ q0]; rfl
      have k1 : w4.cell? ⟨w.heap.size + 1, 0, none⟩ = some lv := by rw [cell_of_row _ _ _ _ _ _ q1]; rfl
      have k2 : w4.frozen? ⟨w.heap.size + 1, 0, none⟩ = false := frozen_of_row _ _ _ _ _ q1
      have k3 : w4.cell? ⟨w.heap.size + 1 + 1, 0, none⟩ = some (.int .i64 0) := by rw [cell_of_row _ _ _ _ _ _ q2]; rfl
      have k4 : w4.frozen? ⟨w.heap.size + 1 + 1, 0, none⟩ = false := frozen_of_row _ _ _ _ _ q2
      have k5 : w4.cell? ⟨W.heap.size, 1, none⟩ = some (.int .i64 q) := by rw [cell_of_row _ _ _ _ _ _ q9]; rfl
      have j1 : ∀ u, (w4.setCell ⟨w.heap.size + 1, 0, none⟩ u).cell? ⟨W.heap.size, 1, none⟩ = some (.int .i64 q) := fun u => by
        have hWw := HWw.out
        rw [cell_of_row _ _ _ _ _ _ ((heap_setCell_other _ _ _ _ (by simp; omega)).trans q9)]; rfl
      have j2 : ∀ u, (w4.setCell ⟨w.heap.size + 1, 0, none⟩ u).cell? ⟨w.heap.size, 0, none⟩ = some (.int .i64 c) := fun u => by
        rw [cell_of_row _ _ _ _ _ _ ((heap_setCell_other _ _ _ _ (by simp)).trans q0)]; rfl
      have j3 : ∀ u, (w4.setCell ⟨w.heap.size + 1, 0, none⟩ u).cell? ⟨w.heap.size + 1, 0, none⟩ = some u := fun u => by
        rw [cell_of_row _ _ _ _ _ _ (heap_setCell_same _ _ _ _ _ _ q1)]; rfl
      have Q0 := Lib.hid q0
      have Q1 := Lib.hid q1
      have Q2 := Lib.hid q2
      have HLN := Lib.hid hlen
      rw [hW3] at hr
      obtain ⟨av, cv, hform⟩ := hown4.form
      rw [hlen] at hform
      subst hform
      have HO4 := Lib.hid hown4
      clear q0 q1 q2 q9 hlow hg4 hown4 how hx hi hz0 hz1 hz2
      by_cases hkc : k + 1 = c
      · have t1 : ((k : Int) + 1 == (c : Int)) = true := by rw [beq_iff_eq]; omega
        have t2 : (((k + 1 : Nat) : Int) == (c : Int)) = true := by rw [beq_iff_eq]; omega
        have t3 : (k + 1 == c) = true := by rw [beq_iff_eq]; omega
        have HKK := Lib.hid hkc
        clear hkc
        gi_wp2_with (refine wpListIn_of_wpList _ rfl (by rintro ⟨a, w, h⟩; exact h) _ _ ?_; refine wpList_val (o := ⟨some 24, _, _, _, _, _⟩) (v := .slice av (k + 1) cv) (w' := w4) rfl (by
          unfold execOp
          simp only [resolve, invoke, builtin, Sem.run_bind, Sem.run_pure, Result.andThen_ok, List.map_toArray, List.map_cons, List.map_nil]
          exact congrArg (fun r => r.andThen fun a w' => Result.ok (Next.value a) w') hr) ?_)
        go_wp2_with fail
        change Code.wpIn _ _ _ _ _ _ _
        gi_wp2_with fail
        have hkK : k = K := by have := HKK.out; have := HKC.out; have := HKM.out; omega
        obtain ⟨W5, hW5⟩ : ∃ W5, W5 = w4.setCell ⟨w.heap.size + 1, 0, none⟩ (.slice av (k + 1) cv) := ⟨_, rfl⟩
        obtain ⟨W6, hW6⟩ : ∃ W6, W6 = W5.setCell ⟨w.heap.size + 1 + 1, 0, none⟩ (.int .i64 q) := ⟨_, rfl⟩
        rw [← hW5, ← hW6]
        have p1 : W5.heap[w.heap.size + 1]? = some (.cells #[.slice av (k + 1) cv] 34 (0, 0)) := by rw [hW5, heap_setCell_same _ _ _ _ _ _ Q1.out]; rfl
        have pO : ∀ b, b ≠ w.heap.size + 1 → W5.heap[b]? = w4.heap[b]? := fun b hb => by rw [hW5, heap_setCell_other _ _ _ _ hb]
        have p2 : W5.heap[w.heap.size + 1 + 1]? = _ := (pO _ (by omega)).trans Q2.out
        have r2 : W6.heap[w.heap.size + 1 + 1]? = some (.cells #[.int .i64 q] 3 (0, 0)) := by rw [hW6, heap_setCell_same _ _ _ _ _ _ p2]; rfl
        have rO : ∀ b, b ≠ w.heap.size + 1 + 1 → W6.heap[b]? = W5.heap[b]? := fun b hb => by rw [hW6, heap_setCell_other _ _ _ _ hb]
        have hOo : ∀ g, (Value.slice av (k + 1) cv).ownBlock = some g → W6.heap[g]? = w4.heap[g]? := fun g hg => by
          have := (HO4.out.lt g hg).1
          rw [rO _ (by omega), pO _ (by omega)]
        refine ⟨hkK, rfl, ⟨.slice av (k + 1) cv, txs s most k ++ [r], q, 0, ?_, HO4.out.kept hOo, r2, ?_, ?_, ?_⟩, ?_⟩
        · exact (rO _ (by omega)).trans p1
        · rw [rO _ (by omega), pO _ (by omega)]
          have h := W4E.out
          rw [HE0.out] at h
          exact h
        · rw [hW6, hW5]
          exact (W4W.out.setCell (by simp) _).setCell (by simp; omega) _
        · rw [if_pos rfl, HR.out, HQ.out, ← HKK.out]
          exact readRow_ok s most (by rw [hkK]; exact HKF.out) (by rw [← HE.out]; exact HE0.out)
        · refine HK2.out W6 (fun b h0 h1 h2 h3 h4 => ?_) ?_
          · rw [rO _ (by omega), pO _ (by omega), W4B.out b h0 h3 h4]
          · have := W4S.out
            rw [hW6, hW5]; simpa using this
      · have t1 : ((k : Int) + 1 == (c : Int)) = false := by rw [beq_eq_false_iff_ne]; omega
        have t2 : (((k + 1 : Nat) : Int) == (c : Int)) = false := by rw [beq_eq_false_iff_ne]; omega
        have t3 : (k + 1 == c) = false := by rw [beq_eq_false_iff_ne]; omega
        have HKK := Lib.hid hkc
        clear hkc
        gi_wp2_with (refine wpListIn_of_wpList _ rfl (by rintro ⟨a, w, h⟩; exact h) _ _ ?_; refine wpList_val (o := ⟨some 24, _, _, _, _, _⟩) (v := .slice av (k + 1) cv) (w' := w4) rfl (by
          unfold execOp
          simp only [resolve, invoke, builtin, Sem.run_bind, Sem.run_pure, Result.andThen_ok, List.map_toArray, List.map_cons, List.map_nil]
          exact congrArg (fun r => r.andThen fun a w' => Result.ok (Next.value a) w') hr) ?_)
        go_wp2_with fail
        change Code.wpIn _ _ _ _ _ _ _
        gi_wp2_with fail
        have hkK : k < K := by
          rcases Nat.lt_or_ge k K with h | h
          · exact h
          · obtain rfl : k = K := by have := HKM.out; omega
            rcases HKE.out with h2 | ⟨_, h2⟩
            · exact absurd (HE.out.symm.trans HE0.out) h2
            · exact absurd h2 HKK.out
        obtain ⟨W5, hW5⟩ : ∃ W5, W5 = w4.setCell ⟨w.heap.size + 1, 0, none⟩ (.slice av (k + 1) cv) := ⟨_, rfl⟩
        rw [← hW5]
        have p1 : W5.heap[w.heap.size + 1]? = some (.cells #[.slice av (k + 1) cv] 34 (0, 0)) := by rw [hW5, heap_setCell_same _ _ _ _ _ _ Q1.out]; rfl
        have pO : ∀ b, b ≠ w.heap.size + 1 → W5.heap[b]? = w4.heap[b]? := fun b hb => by rw [hW5, heap_setCell_other _ _ _ _ hb]
        have hOo : ∀ g, (Value.slice av (k + 1) cv).ownBlock = some g → W5.heap[g]? = w4.heap[g]? := fun g hg => by
          have := (HO4.out.lt g hg).1
          rw [pO _ (by omega)]
        refine ⟨hkK, ⟨.slice av (k + 1) cv, (pO _ (by omega)).trans Q0.out, p1, ?_, (pO _ (by omega)).trans Q2.out, ⟨e, (pO _ (by omega)).trans W4E.out⟩, ?_⟩, ?_⟩
        · have := HO4.out.kept hOo
          rw [HR.out] at this
          exact this
        · rw [hW5]
          exact W4W.out.setCell (by simp) _
        · refine HK2.out W5 (fun b h0 h1 h2 h3 h4 => ?_) ?_
          · rw [pO _ (by omega), W4B.out b h0 h3 h4]
          · have := W4S.out
            rw [hW5]; simpa using this
    · have x1 : ((e : Int) != 0) = true := by rw [bne_iff_ne]; omega
      have x2 : (e != 0) = true := by rw [bne_iff_ne]; exact he
      have HE0 := Lib.hid he
      clear he
      gi_wp2_with fail
      rw [← hW3]
      have hkK : k = K := by
        rcases Nat.lt_or_ge k K with h | h
        · exact absurd (HE.out.trans (ferr_zero s most K k HKF.out h).1) HE0.out
        · have := HKM.out; omega
      refine ⟨hkK, rfl, ⟨lv, txs s most k, 0, e, ?_, OW3.out, ?_, W3E.out, W3B.out, ?_⟩, ?_⟩
      · exact (W3O.out _ (by omega)).trans HC1.out
      · exact (W3O.out _ (by omega)).trans HC2.out
      · rw [if_neg HE0.out]
        rw [hkK] at HE
        rw [HE.out]
        exact readRow_err s most HKC.out HKF.out (by rw [← HE.out]; exact HE0.out)
      · exact HK2.out W3 (fun b _ _ _ h _ => W3O.out b h) (by rw [W3Z.out]; exact Nat.le_refl _)
  · intro D W hD hI hh
    rename_i hcont
    refine hcont _ _ ?_
    clear hcont
    obtain ⟨lv, L, N, E, c1, ow, c2, c3, bw, hres⟩ := hI
    have c2' : W.heap[w.heap.size + 1 + 1]? = some (.cells #[.int .i64 N] 3 (0, 0)) := c2
    have c3' : W.heap[w.heap.size + 1 + 1 + 1]? = some (.cells #[.int .i64 E] 24 (0, 0)) := c3
    have HC1 := Lib.hid c1; have HC2 := Lib.hid c2'; have HC3 := Lib.hid c3'; have HOW := Lib.hid ow; have HBW := Lib.hid bw; have HH := Lib.hid hh; have HD := Lib.hid hD; have HRES := Lib.hid hres
    have hE : W.cell? ⟨w.heap.size + 1 + 1 + 1, 0, none⟩ = some (.int .i64 E) := by rw [cell_of_row _ _ _ _ _ _ c3']; rfl
    clear c1 c2 c2' c3 c3' ow bw hh hD hres
    have HRW : Hid (Rows3 w.heap.size lv N E W.drew) := ⟨HC1.out, HC2.out, HC3.out⟩
    have HRO : Hid (Rows3 w.heap.size lv N E W) := ⟨HC1.out, HC2.out, HC3.out⟩
    obtain ⟨av, cv, rfl⟩ := HOW.out.form
    by_cases hE0 : E = 0
    · have x1 : ((E : Int) != 0) = false := by rw [bne_eq_false_iff_eq]; omega
      have x2 : (E != 0) = false := by rw [bne_eq_false_iff_eq]; exact hE0
      have HE0 := Lib.hid hE0
      clear hE0
      gi_wp2_with fail
      refine wpIn_wide.2 ?_
      refine wp_region_noPanic ?_
      refine wp_region_held_drew (S := Rows3 w.heap.size (.slice av L.length cv) N E) (by kernel_rfl) HRW.out (fun hS => ?_)
      refine held_take 0 (.slice av L.length cv) (oi := ⟨some 34, _, _, _, _, _⟩) rfl (by kernel_rfl) (by kernel_rfl) (by kernel_rfl) rfl (fun _ _ _ h => h) (by
        intro w' hSw
        obtain ⟨h1, h2, h3, -⟩ := hSw.cells
        clear hSw
        go_simp) hS ?_
      simp only [Act.put, List.setIfInBounds_toArray, List.set_cons_zero, List.set_cons_succ]
      refine held_take 1 (.int .i64 (N : Int)) (oi := ⟨some 35, _, _, _, _, _⟩) rfl (by kernel_rfl) (by kernel_rfl) (by kernel_rfl) rfl (fun _ _ _ h => h) (by
        intro w' hSw
        obtain ⟨h1, h2, h3, -⟩ := hSw.cells
        clear hSw
        go_simp) hS ?_
      simp only [Act.put, List.setIfInBounds_toArray, List.set_cons_zero, List.set_cons_succ]
      have S1 := Lib.hid (HRW.out.set1 (.slice av L.length cv))
      have S2 := Lib.hid (S1.out.set2 (N : Int))
      have S3 := Lib.hid (S2.out.set3 0)
      clear hS
      refine held_skip 2 (o := ⟨none, _, _, _, _, _⟩) (w' := (W.drew.setCell ⟨w.heap.size + 1, 0, none⟩ (.slice av L.length cv))) (by kernel_rfl) rfl rfl (by
        obtain ⟨h1, h2, h3, h4, h5, h6⟩ := HRW.out.cells
        go_simp) S1.out ?_
      simp only [Act.put]
      refine held_skip 3 (o := ⟨none, _, _, _, _, _⟩) (w' := ((W.drew.setCell ⟨w.heap.size + 1, 0, none⟩ (.slice av L.length cv)).setCell ⟨w.heap.size + 1 + 1, 0, none⟩ (.int .i64 (N : Int)))) (by kernel_rfl) rfl rfl (by
        obtain ⟨h1, h2, h3, h4, h5, h6⟩ := HRO.out.cells
        go_simp) S2.out ?_
      simp only [Act.put]
      refine held_skip 4 (o := ⟨none, _, _, _, _, _⟩) (w' := ((W.drew.setCell ⟨w.heap.size + 1, 0, none⟩ (.slice av L.length cv)).setCell ⟨w.heap.size + 1 + 1, 0, none⟩ (.int .i64 (N : Int))).setCell ⟨w.heap.size + 1 + 1 + 1, 0, none⟩ (.int .i64 0)) (by kernel_rfl) rfl rfl (by
        obtain ⟨h1, h2, h3, h4, h5, h6⟩ := HRO.out.cells
        go_simp) (by rw [HE0.out]; exact S3.out) ?_
      simp only [Act.put]
      refine wpAnyH_done (by kernel_rfl) ?_ _
      refine NoPanic.normal ?_
      have HH2 : Hid ((((W.drew.setCell ⟨w.heap.size + 1, 0, none⟩ (.slice av L.length cv)).setCell ⟨w.heap.size + 1 + 1, 0, none⟩ (.int .i64 (N : Int))).setCell ⟨w.heap.size + 1 + 1 + 1, 0, none⟩ (.int .i64 0)).heap[D]? = some (.deferred (some []))) := by
        show _ = _
        have := HD.out; have := HV4.out
        rw [heap_setCell_other _ _ _ _ (by simp; omega), heap_setCell_other _ _ _ _ (by simp; omega), heap_setCell_other _ _ _ _ (by simp; omega)]
        exact HH.out
      have HBW2 : Hid (Below w.heap.size w (((W.drew.setCell ⟨w.heap.size + 1, 0, none⟩ (.slice av L.length cv)).setCell ⟨w.heap.size + 1 + 1, 0, none⟩ (.int .i64 (N : Int))).setCell ⟨w.heap.size + 1 + 1 + 1, 0, none⟩ (.int .i64 0))) :=
        ((HBW.out.drew.setCell (by simp) _).setCell (by simp; try omega) _).setCell (by simp; try omega) _
      have HOW2 : Hid (OwnS (((W.drew.setCell ⟨w.heap.size + 1, 0, none⟩ (.slice av L.length cv)).setCell ⟨w.heap.size + 1 + 1, 0, none⟩ (.int .i64 (N : Int))).setCell ⟨w.heap.size + 1 + 1 + 1, 0, none⟩ (.int .i64 0)) (V.heap.size + 2) (.slice av L.length cv) L) :=
        HOW.out.kept (fun g hg => by
          have := (HOW.out.lt g hg).1; have := HV4.out
          rw [heap_setCell_other _ _ _ _ (by simp; omega), heap_setCell_other _ _ _ _ (by simp; omega), heap_setCell_other _ _ _ _ (by simp; omega)]
          rfl)
      clear S1 S2 HRW HC1 HC2 HC3
      generalize ((W.drew.setCell ⟨w.heap.size + 1, 0, none⟩ (.slice av L.length cv)).setCell ⟨w.heap.size + 1 + 1, 0, none⟩ (.int .i64 (N : Int))).setCell ⟨w.heap.size + 1 + 1 + 1, 0, none⟩ (.int .i64 0) = W5 at *
      gi_wp2_with fail
      obtain ⟨n1, n2, n3⟩ := S3.out
      have hDV : D = V.heap.size := HD.out
      have hV4 := HV4.out
      have m1 : (W5.putObj D (.deferred none)).cell? ⟨w.heap.size + 1, 0, none⟩ = some ((.slice av L.length cv)) := by rw [cell_of_row _ _ _ _ _ _ ((World.putObj_heap_other (by omega)).trans n1)]; rfl
      have m2 : (W5.putObj D (.deferred none)).cell? ⟨w.heap.size + 1 + 1, 0, none⟩ = some (.int .i64 (N : Int)) := by rw [cell_of_row _ _ _ _ _ _ ((World.putObj_heap_other (by omega)).trans n2)]; rfl
      have m3 : (W5.putObj D (.deferred none)).cell? ⟨w.heap.size + 1 + 1 + 1, 0, none⟩ = some (.int .i64 0) := by rw [cell_of_row _ _ _ _ _ _ ((World.putObj_heap_other (by omega)).trans n3)]; rfl
      refine ⟨by simp, .inl ⟨_, _, rfl, run_takeDeferred HH2.out, ?_⟩⟩
      refine ⟨.tuple #[(.slice av L.length cv), .int .i64 (N : Int), .int .i64 0], ?_, ?_⟩
      · refine results_cells3R (p := 6) (q := 7) (r := 8) rfl _ _ rfl rfl rfl (loadVar_oneR Try.underlying34 rfl m1) (loadVar_oneR Try.underlying3 rfl m2) (loadVar_oneR Try.underlying24 rfl m3)
      · have hr := HRES.out
        rw [if_pos HE0.out] at hr
        unfold RowRead
        rw [hr]
        refine ⟨_, rfl, ?_, HBW2.out.grown (grownBy_putObj' W5 D _) HBW2.out.size (fun k e => by have := Option.some.inj e; omega)⟩
        exact OwnS.isStrs (HOW2.out.kept (fun g hg => World.putObj_heap_other (by have := (HOW2.out.lt g hg).1; omega)))
    · have x1 : ((E : Int) != 0) = true := by rw [bne_iff_ne]; omega
      have x2 : (E != 0) = true := by rw [bne_iff_ne]; exact hE0
      have HE0 := Lib.hid hE0
      clear hE0
      gi_wp2_with fail
      refine wpIn_wide.2 ?_
      refine wp_region_noPanic ?_
      refine wp_region_held_drew (S := fun w' => ∃ l n, Rows3 w.heap.size l n E w') (by kernel_rfl) ⟨_, _, HRW.out⟩ (fun hS => ?_)
      refine held_take 0 (.int .i64 (E : Int)) (oi := ⟨some 33, _, _, _, _, _⟩) rfl (by kernel_rfl) (by kernel_rfl) (by kernel_rfl) rfl (fun _ _ _ h => h) (by
        rintro w' ⟨l, n, hSw⟩
        obtain ⟨h1, h2, h3, -⟩ := hSw.cells
        clear hSw
        go_simp) hS ?_
      simp only [Act.put, List.setIfInBounds_toArray, List.set_cons_zero, List.set_cons_succ]
      have S1 := Lib.hid (HRW.out.set1 (.slice none 0 0))
      have S2 := Lib.hid (S1.out.set2 0)
      have S3 := Lib.hid (S2.out.set3 (E : Int))
      clear hS
      refine held_skip 1 (o := ⟨none, _, _, _, _, _⟩) (w' := (W.drew.setCell ⟨w.heap.size + 1, 0, none⟩ (.slice none 0 0))) (by kernel_rfl) rfl rfl (by
        obtain ⟨h1, h2, h3, h4, h5, h6⟩ := HRW.out.cells
        go_simp) ⟨_, _, S1.out⟩ ?_
      simp only [Act.put]
      refine held_skip 2 (o := ⟨none, _, _, _, _, _⟩) (w' := ((W.drew.setCell ⟨w.heap.size + 1, 0, none⟩ (.slice none 0 0)).setCell ⟨w.heap.size + 1 + 1, 0, none⟩ (.int .i64 0))) (by kernel_rfl) rfl rfl (by
        obtain ⟨h1, h2, h3, h4, h5, h6⟩ := HRO.out.cells
        go_simp) ⟨_, _, S2.out⟩ ?_
      simp only [Act.put]
      refine held_skip 3 (o := ⟨none, _, _, _, _, _⟩) (w' := ((W.drew.setCell ⟨w.heap.size + 1, 0, none⟩ (.slice none 0 0)).setCell ⟨w.heap.size + 1 + 1, 0, none⟩ (.int .i64 0)).setCell ⟨w.heap.size + 1 + 1 + 1, 0, none⟩ (.int .i64 (E : Int))) (by kernel_rfl) rfl rfl (by
        obtain ⟨h1, h2, h3, h4, h5, h6⟩ := HRO.out.cells
        go_simp) ⟨_, _, S3.out⟩ ?_
      simp only [Act.put]
      refine wpAnyH_done (by kernel_rfl) ?_ _
      refine NoPanic.normal ?_
      have HH2 : Hid ((((W.drew.setCell ⟨w.heap.size + 1, 0, none⟩ (.slice none 0 0)).setCell ⟨w.heap.size + 1 + 1, 0, none⟩ (.int .i64 0)).setCell ⟨w.heap.size + 1 + 1 + 1, 0, none⟩ (.int .i64 (E : Int))).heap[D]? = some (.deferred (some []))) := by
        show _ = _
        have := HD.out; have := HV4.out
        rw [heap_setCell_other _ _ _ _ (by simp; omega), heap_setCell_other _ _ _ _ (by simp; omega), heap_setCell_other _ _ _ _ (by simp; omega)]
        exact HH.out
      have HBW2 : Hid (Below w.heap.size w (((W.drew.setCell ⟨w.heap.size + 1, 0, none⟩ (.slice none 0 0)).setCell ⟨w.heap.size + 1 + 1, 0, none⟩ (.int .i64 0)).setCell ⟨w.heap.size + 1 + 1 + 1, 0, none⟩ (.int .i64 (E : Int)))) :=
        ((HBW.out.drew.setCell (by simp) _).setCell (by simp; try omega) _).setCell (by simp; try omega) _
      clear S1 S2 HRW HC1 HC2 HC3 HOW
      generalize ((W.drew.setCell ⟨w.heap.size + 1, 0, none⟩ (.slice none 0 0)).setCell ⟨w.heap.size + 1 + 1, 0, none⟩ (.int .i64 0)).setCell ⟨w.heap.size + 1 + 1 + 1, 0, none⟩ (.int .i64 (E : Int)) = W5 at *
      gi_wp2_with fail
      obtain ⟨n1, n2, n3⟩ := S3.out
      have hDV : D = V.heap.size := HD.out
      have hV4 := HV4.out
      have m1 : (W5.putObj D (.deferred none)).cell? ⟨w.heap.size + 1, 0, none⟩ = some ((.slice none 0 0)) := by rw [cell_of_row _ _ _ _ _ _ ((World.putObj_heap_other (by omega)).trans n1)]; rfl
      have m2 : (W5.putObj D (.deferred none)).cell? ⟨w.heap.size + 1 + 1, 0, none⟩ = some (.int .i64 0) := by rw [cell_of_row _ _ _ _ _ _ ((World.putObj_heap_other (by omega)).trans n2)]; rfl
      have m3 : (W5.putObj D (.deferred none)).cell? ⟨w.heap.size + 1 + 1 + 1, 0, none⟩ = some (.int .i64 (E : Int)) := by rw [cell_of_row _ _ _ _ _ _ ((World.putObj_heap_other (by omega)).trans n3)]; rfl
      refine ⟨by simp, .inl ⟨_, _, rfl, run_takeDeferred HH2.out, ?_⟩⟩
      refine ⟨.tuple #[(.slice none 0 0), .int .i64 0, .int .i64 (E : Int)], ?_, ?_⟩
      · refine results_cells3R (p := 6) (q := 7) (r := 8) rfl _ _ rfl rfl rfl (loadVar_oneR Try.underlying34 rfl m1) (loadVar_oneR Try.underlying3 rfl m2) (loadVar_oneR Try.underlying24 rfl m3)
      · have hr := HRES.out
        rw [if_neg HE0.out] at hr
        unfold RowRead
        rw [hr]
        refine ⟨_, rfl, ?_, HBW2.out.grown (grownBy_putObj' W5 D _) HBW2.out.size (fun k e => by have := Option.some.inj e; omega)⟩
        exact .inl ⟨rfl, none, 0, rfl, Nat.zero_le _⟩
end Go.Proofs.Ytegcpedgdldodaa

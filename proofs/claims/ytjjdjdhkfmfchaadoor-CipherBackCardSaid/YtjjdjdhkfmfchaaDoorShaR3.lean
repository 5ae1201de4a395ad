/- The reference's state behind a block. -/
import Derived.Test.YtjjdjdhkfmfchaaDoorShaR2
namespace Go.Proofs.YtjjdjdhkfmfchaaDoor
set_option linter.unusedVariables false
set_option linter.unusedSimpArgs false
open Go.RowKit Sha
theorem u_not (x : UInt32) : bits .xor .u32 IntKind.u32.max (u x) = u (~~~x) := by
  have h : (4294967295 : UInt32) ^^^ x = ~~~x := by
    apply bool_ext
    intro i
    by_cases hi : i < 32
    · simp only [UInt32.toBitVec_xor, UInt32.toBitVec_not, BitVec.getLsbD_xor, BitVec.getLsbD_not, hi, decide_true, Bool.true_and]
      have : (4294967295 : UInt32).toBitVec = BitVec.allOnes 32 := by decide +kernel
      rw [this, BitVec.getLsbD_allOnes]
      simp [hi]
    · simp [BitVec.getLsbD_of_ge _ _ (Nat.le_of_not_lt hi)]
  rw [show IntKind.u32.max = u 4294967295 from by decide +kernel, u_xor, h]
theorem u_mod2 (a b : UInt32) : (u a + u b) % 4294967296 = u (a + b) := by rw [← u_add, IntKind.wrap_u32]
theorem u_mod3 (a b c : UInt32) : (u a + u b + u c) % 4294967296 = u (a + b + c) := by
  rw [← u_mod2, ← u_mod2]; omega
theorem u_mod4 (a b c d : UInt32) : (u a + u b + u c + u d) % 4294967296 = u (a + b + c + d) := by
  rw [← u_mod2, ← u_mod3]; omega
attribute [local go_sem] u_or u_xor u_and u_add u_not u_mod2 u_mod3 u_mod4

theorem plus_comm (s r : St) : s.plus r = r.plus s := by
  unfold St.plus
  simp only [UInt32.add_comm]

/-- the cells of a state. -/
def scells (s : St) : Array Value := #[.int .u32 (u s.a), .int .u32 (u s.b), .int .u32 (u s.c), .int .u32 (u s.d), .int .u32 (u s.e), .int .u32 (u s.f), .int .u32 (u s.g), .int .u32 (u s.h)]
theorem scells_eq (s : St) : scells s = ucells s.list := rfl
theorem zeros_scells : ucells zeros8 = scells ⟨0, 0, 0, 0, 0, 0, 0, 0⟩ := rfl
theorem scells_size (s : St) : (scells s).size = 8 := rfl
theorem scells_one (s : St) : (scells s).all (·.oneCell') = true := by rw [scells_eq]; exact ucells_one _
theorem scells_list (s : St) (j : Nat) (hj : j < 8) : (scells s)[j]? = some (.int .u32 (u (s.list.getD j 0))) := by
  rw [scells_eq, ucells_at _ j (by rw [St.list_length]; exact hj), List.getD_eq_getElem?_getD, List.getElem?_eq_getElem (by rw [St.list_length]; exact hj)]
  rfl

theorem hp_alloc (w : World) (o : Obj) : (w.alloc o).heap = w.heap.push o := rfl
theorem hp_size (w : World) (o : Obj) : (w.alloc o).heap.size = w.heap.size + 1 := by simp [hp_alloc]
theorem hp_set_size (w : World) (b : Nat) (c : Array Value) : (w.setRow b c).heap.size = w.heap.size := by simp [World.setRow]
theorem hp_at (w : World) (o : Obj) (k : Nat) (h : k = w.heap.size) : (w.alloc o).heap[k]? = some o := by subst h; exact heap_alloc_new w o
theorem quiet_eq2 {P : Program} {f : FuncId} {args : Array Value} {w : World} {k n : Nat} {v : Value}
    (h : Calls P f args (w.drewN (k + n)) fun e w' => e = .returned v ∧ w.drewN (k + n) = w') : Calls P f args (w.drewN (k + n)) fun e w'' => e = .returned v ∧ ∃ m, w'' = w.drewN (k + m) :=
  h.mono fun _ _ ⟨he, hm⟩ => ⟨he, n, hm.symm⟩

/-- what took lays ahead of its rounds. -/
structure Laid3 (w : World) (W : World) (s : St) (bl : List UInt8) (m : Nat) : Prop where
  st : W.heap[w.heap.size]? = some (.cells (scells s) 59 (0, 0))
  out : W.heap[w.heap.size + 1]? = some (.cells (scells ⟨0, 0, 0, 0, 0, 0, 0, 0⟩) 59 (0, 0))
  ws : W.heap[m]? = some (.cells (ucells (pws bl 64)) 66 (0, 0))
  ks : W.heap[m + 1]? = some (.cells (ucells kk) 66 (0, 0))
  now : W.heap[m + 2]? = some (.cells (scells s) 59 (0, 0))
  more : w.heap.size + 2 ≤ m
  below : Below w.heap.size w W

structure Laid2 (w : World) (W : World) (s : St) (bl : List UInt8) (m : Nat) : Prop where
  st : W.heap[w.heap.size]? = some (.cells (scells s) 59 (0, 0))
  out : W.heap[w.heap.size + 1]? = some (.cells (scells ⟨0, 0, 0, 0, 0, 0, 0, 0⟩) 59 (0, 0))
  ws : W.heap[m]? = some (.cells (ucells (pws bl 64)) 66 (0, 0))
  ks : W.heap[m + 1]? = some (.cells (ucells kk) 66 (0, 0))
  size : W.heap.size = m + 2
  more : w.heap.size + 2 ≤ m
  below : Below w.heap.size w W
theorem laid2_of {w w2 : World} {s : St} {bl : List UInt8} (h1 : w2.heap[w.heap.size]? = some (.cells (scells s) 59 (0, 0)))
    (h2 : w2.heap[w.heap.size + 1]? = some (.cells (scells ⟨0, 0, 0, 0, 0, 0, 0, 0⟩) 59 (0, 0))) (h3 : w.heap.size + 2 ≤ w2.heap.size) (h4 : Below w.heap.size w w2) :
    Laid2 w ((((w2.alloc (.cells (ucells z64) 66)).alloc (.cells (ucells z64) 66)).setRow w2.heap.size (ucells (pws bl 64))).setRow (w2.heap.size + 1) (ucells kk)) s bl w2.heap.size where
  st := by rw [setRow_other _ _ _ _ (by omega), setRow_other _ _ _ _ (by omega), heap_alloc_old _ _ (by rw [hp_size]; omega), heap_alloc_old _ _ (by omega)]; exact h1
  out := by rw [setRow_other _ _ _ _ (by omega), setRow_other _ _ _ _ (by omega), heap_alloc_old _ _ (by rw [hp_size]; omega), heap_alloc_old _ _ (by omega)]; exact h2
  ws := by rw [setRow_other _ _ _ _ (by omega)]; exact setRow_heap _ _ _ _ _ _ (by rw [heap_alloc_old _ _ (by rw [hp_size]; omega), heap_alloc_new])
  ks := setRow_heap _ _ _ _ _ _ (by rw [setRow_other _ _ _ _ (by omega), hp_at _ _ _ (by rw [hp_size])])
  size := by rw [hp_set_size, hp_set_size, hp_size, hp_size]
  more := h3
  below := (((h4.alloc (by omega) _).alloc (by rw [hp_size]; omega) _).grown (grown_setRow _ _ _) (by rw [hp_size, hp_size]; omega) (fun k hk => by injection hk with hk; omega)).grown (grown_setRow _ _ _) (by rw [hp_set_size, hp_size, hp_size]; omega) (fun k hk => by injection hk with hk; omega)
theorem Laid2.next {w W : World} {s : St} {bl : List UInt8} {m : Nat} (h : Laid2 w W s bl m) : Laid3 w (W.alloc (.cells (scells s) 59)) s bl m where
  st := by rw [heap_alloc_old _ _ (by rw [h.size]; have := h.more; omega)]; exact h.st
  out := by rw [heap_alloc_old _ _ (by rw [h.size]; have := h.more; omega)]; exact h.out
  ws := by rw [heap_alloc_old _ _ (by rw [h.size]; omega)]; exact h.ws
  ks := by rw [heap_alloc_old _ _ (by rw [h.size]; omega)]; exact h.ks
  now := by rw [hp_at _ _ _ h.size.symm]
  more := h.more
  below := h.below.alloc h.below.size _

theorem wpList_named {P : Program} {w : World} {ops : Array Oper} {rest : List Oper} {a : Act} {Q : Exit → Act → World → Prop} (h : ∀ W, W = w → wpList P ops Q rest a W) : wpList P ops Q rest a w := h w rfl

theorem consts_below (w : World) :
    Calls Tryd.prog 42 #[] w fun e w' => e = .returned (.agg (ucells kk)) ∧ Below w.heap.size w w' := by
  refine (consts_any w).mono ?_
  rintro e w' ⟨rfl, rfl⟩
  exact ⟨rfl, (Below.refl _ _).alloc (Nat.le_refl _) _⟩

set_option maxRecDepth 20000 in
set_option maxHeartbeats 16000000 in
theorem took_any (s : St) (bl : List UInt8) (h : bl.length = 64) (w : World) :
    Calls Tryd.prog 39 #[.agg (scells s), .string ⟨bl.toArray⟩] w fun e w' => e = .returned (.agg (scells (comp s bl))) ∧ Below w.heap.size w w' := by
  have HBL := Lib.hid h
  clear h
  have hz8 := zero_8
  have hz64 := zero_64
  rw [zeros_scells] at hz8
  go_enter Tryd.func39, Tryd.ntmps39
  go_wp2_with (go_at_call 41; refine (words_any bl HBL.out _).mono ?_; rintro e w1 ⟨rfl, b1⟩; have B1 := Lib.hid b1; clear b1)
  have hA : w1.heap[w.heap.size]? = some (.cells (scells s) 59 (0, 0)) := by
    rw [B1.out.block _ (by rw [hp_size, hp_size]; omega), heap_alloc_old _ _ (by rw [hp_size]; omega), heap_alloc_new]
  have hB : w1.heap[w.heap.size + 1]? = some (.cells (scells ⟨0, 0, 0, 0, 0, 0, 0, 0⟩) 59 (0, 0)) := by
    rw [B1.out.block _ (by rw [hp_size, hp_size]; omega), hp_at _ _ _ (by rw [hp_size])]
  have hC : w.heap.size + 2 ≤ w1.heap.size := by have := B1.out.size; rw [hp_size, hp_size] at this; omega
  have hD : Below w.heap.size w w1 := (((Below.refl _ _).alloc (Nat.le_refl _) _).alloc (by rw [hp_size]; omega) _).trans (B1.out.mono (by rw [hp_size, hp_size]; omega))
  have HE := Lib.hid (And.intro hA (And.intro hB (And.intro hC hD)))
  clear hA hB hC hD B1
  have HF : Hid (∀ w2, Below w1.heap.size w1 w2 → Laid2 w ((((w2.alloc (.cells (ucells z64) 66)).alloc (.cells (ucells z64) 66)).setRow w2.heap.size (ucells (pws bl 64))).setRow (w2.heap.size + 1) (ucells kk)) s bl w2.heap.size) := by
    intro w2 hb
    obtain ⟨h1, h2, h3, h4⟩ := HE.out
    exact laid2_of (by rw [hb.block _ (by omega)]; exact h1) (by rw [hb.block _ (by omega)]; exact h2) (Nat.le_trans h3 hb.size) (h4.trans (hb.mono (by omega)))
  go_wp2_with (first
    | (go_at_call 42; refine (consts_below _).mono ?_; rintro e w2 ⟨rfl, b2⟩; have L2 := Lib.hid (HF.out w2 b2); clear b2)
    | (refine wpList_store_row (o := ⟨none, .store 66 (.tmp 5) (.tmp 15), _, _, _, _⟩) rfl 66 (.tmp 5) (.tmp 15) rfl w2.heap.size rfl (ucells (pws bl 64)) (ucells z64) rfl 66 (by rw [heap_alloc_old _ _ (by rw [hp_size]; omega), heap_alloc_new]) (by rw [ucells_size, ucells_size, pws_length]; rfl) (by rw [ucells_size, pws_length]; exact size_64) (ucells_one _) ?_)
    | (refine wpList_store_row (o := ⟨none, .store 66 (.tmp 6) (.tmp 16), _, _, _, _⟩) rfl 66 (.tmp 6) (.tmp 16) rfl (w2.heap.size + 1) rfl (ucells kk) (ucells z64) rfl 66 (by rw [setRow_other _ _ _ _ (by omega), hp_at _ _ _ (by rw [hp_size])]) (by rw [ucells_size, ucells_size]; rfl) size_64 (ucells_one _) ?_; refine wpList_named (fun W3 hW3 => ?_); rw [← hW3] at L2; clear hW3)
    | (refine wpList_load_row (o := ⟨some 17, _, _, _, _, _⟩) rfl 59 (.tmp 2) rfl w.heap.size rfl _ _ _ _ L2.out.st Tryd.underlying59 rfl size_8 ?_)
    | (refine wpList_store_row (o := ⟨none, .store 59 (.tmp 7) (.tmp 17), _, _, _, _⟩) rfl 59 (.tmp 7) (.tmp 17) rfl W3.heap.size rfl (scells s) (scells ⟨0, 0, 0, 0, 0, 0, 0, 0⟩) rfl 59 (heap_alloc_new W3 _) rfl size_8 (scells_one _) ?_; rw [alloc_setRow]; refine wpList_named (fun W4 hW4 => ?_); have L3 := Lib.hid L2.out.next; rw [← hW4] at L3; have LS := L2.out.size; rw [LS]; clear hW4 L2 LS))
  clear HE HF hz8 hz64
  generalize w2.heap.size = m at *
  go_loopw [8] (fun i wr => ∃ t : Nat, t ≤ 64 ∧ i = .int .i64 t ∧ wr.heap[m + 2]? = some (.cells (scells (rounds s bl t)) 59 (0, 0)) ∧ Below (m + 2) W4 wr) (fun i _ => 64 - (intOf i).toNat)
  case atStart => exact ⟨0, by omega, rfl, L3.out.now, Below.refl _ _⟩
  case round =>
    obtain ⟨t, ht, rfl, hX, hB⟩ := hrel
    have HW := Lib.hid hX
    have HB := Lib.hid hB
    have hws : wr.heap[m]? = some (.cells (ucells (pws bl 64)) 66 (0, 0)) := by rw [hB.block _ (by omega)]; exact L3.out.ws
    have hks : wr.heap[m + 1]? = some (.cells (ucells kk) 66 (0, 0)) := by rw [hB.block _ (by omega)]; exact L3.out.ks
    clear hB
    rcases hr : rounds s bl t with ⟨va, vb, vc, vd, ve, vf, vg, vh⟩
    rw [hr] at hX
    have HR := Lib.hid hr
    clear hr
    by_cases hlt : t < 64
    · have x0 : wr.cell? ⟨m + 2, 0, none⟩ = some (.int .u32 (u va)) := cell_of_row _ _ 0 _ _ _ hX
      have x1 : wr.cell? ⟨m + 2, 1, none⟩ = some (.int .u32 (u vb)) := cell_of_row _ _ 1 _ _ _ hX
      have x2 : wr.cell? ⟨m + 2, 2, none⟩ = some (.int .u32 (u vc)) := cell_of_row _ _ 2 _ _ _ hX
      have x3 : wr.cell? ⟨m + 2, 3, none⟩ = some (.int .u32 (u vd)) := cell_of_row _ _ 3 _ _ _ hX
      have x4 : wr.cell? ⟨m + 2, 4, none⟩ = some (.int .u32 (u ve)) := cell_of_row _ _ 4 _ _ _ hX
      have x5 : wr.cell? ⟨m + 2, 5, none⟩ = some (.int .u32 (u vf)) := cell_of_row _ _ 5 _ _ _ hX
      have x6 : wr.cell? ⟨m + 2, 6, none⟩ = some (.int .u32 (u vg)) := cell_of_row _ _ 6 _ _ _ hX
      have x7 : wr.cell? ⟨m + 2, 7, none⟩ = some (.int .u32 (u vh)) := cell_of_row _ _ 7 _ _ _ hX
      have y0 : wr.cell? ⟨m, t, none⟩ = some (.int .u32 (u (W bl t))) := by
        rw [cell_of_row _ _ t _ _ _ hws, ucells_at _ t (by rw [pws_length]; exact hlt), pws_at bl 64 t hlt hlt]
      have y1 : wr.cell? ⟨m + 1, t, none⟩ = some (.int .u32 (u (kk.getD t 0))) := by
        rw [cell_of_row _ _ t _ _ _ hks, ucells_at _ t (show t < kk.length from hlt), List.getD_eq_getElem?_getD, List.getElem?_eq_getElem (show t < kk.length from hlt)]
        rfl
      have HN := Lib.hid (show rounds s bl (t + 1) = rnd (rounds s bl t) (kk.getD t 0) (W bl t) from rfl)
      rw [HR.out] at HN HW
      clear hX hws hks
      generalize kk.getD t 0 = kx at *
      generalize W bl t = wx at *
      have it : (t : Int) < 64 := by omega
      go_wp2_with fail
      go_quiet (fail)
      go_wp2_with fail
      go_quiet ((go_at_call 43; exact quiet_eq2 (turn_any _ _ _ (by decide))))
      go_wp2_with fail
      go_quiet ((go_at_call 43; exact quiet_eq2 (turn_any _ _ _ (by decide))))
      have hnew : scells ⟨vh + (rot ve 6 ^^^ rot ve 11 ^^^ rot ve 25) + (ve &&& vf ^^^ ~~~ve &&& vg) + kx + wx + ((rot va 2 ^^^ rot va 13 ^^^ rot va 22) + (va &&& vb ^^^ va &&& vc ^^^ vb &&& vc)), va, vb, vc, vd + (vh + (rot ve 6 ^^^ rot ve 11 ^^^ rot ve 25) + (ve &&& vf ^^^ ~~~ve &&& vg) + kx + wx), ve, vf, vg⟩ = scells (rounds s bl (t + 1)) := by
        rw [HN.out]; rfl
      have HNW := Lib.hid hnew
      clear hnew
      go_wp2_with (refine wpList_store_row (o := ⟨none, .store 59 (.tmp 7) (.tmp 99), _, _, _, _⟩) rfl 59 (.tmp 7) (.tmp 99) rfl (m + 2) rfl (scells ⟨vh + (rot ve 6 ^^^ rot ve 11 ^^^ rot ve 25) + (ve &&& vf ^^^ ~~~ve &&& vg) + kx + wx + ((rot va 2 ^^^ rot va 13 ^^^ rot va 22) + (va &&& vb ^^^ va &&& vc ^^^ vb &&& vc)), va, vb, vc, vd + (vh + (rot ve 6 ^^^ rot ve 11 ^^^ rot ve 25) + (ve &&& vf ^^^ ~~~ve &&& vg) + kx + wx), ve, vf, vg⟩) (scells ⟨va, vb, vc, vd, ve, vf, vg, vh⟩) rfl 59 HW.out rfl size_8 (scells_one _) ?_; refine wpList_named (fun W5 hW5 => ?_); rw [HNW.out] at hW5; have H5 := Lib.hid hW5; clear hW5)
      refine ⟨⟨t + 1, by omega, by go_num, ?_, ?_⟩, by simp [intOf]; omega⟩
      · rw [H5.out]; exact setRow_heap _ _ _ _ _ _ HW.out
      · rw [H5.out]; exact (below_drewN HB.out _).grown (grown_setRow _ _ _) (by have := lt_of_block HW.out; have e : (wr.drewN 0).heap.size = wr.heap.size := rfl; exact Nat.le_of_lt this) (fun k hk => by injection hk with hk; omega)
    · obtain rfl : t = 64 := by omega
      rw [show ((64 : Nat) : Int) = 64 from rfl]
      clear hX hws hks HR
      obtain ⟨r, hr⟩ : ∃ r, rounds s bl 64 = r := ⟨_, rfl⟩
      rw [hr, scells_eq, ← mixl_zero r s] at HW
      have HR := Lib.hid hr
      clear hr
      have hst : wr.heap[w.heap.size]? = some (.cells (scells s) 59 (0, 0)) := by
        rw [HB.out.block _ (by have := L3.out.more; omega)]; exact L3.out.st
      clear hst
      go_wp2_with fail
      go_loopw [13] (fun i wr => ∃ j : Nat, j ≤ 8 ∧ i = .int .i64 j ∧ wr.heap[m + 2]? = some (.cells (ucells (mixl r s j)) 59 (0, 0)) ∧ Below (m + 2) W4 wr) (fun i _ => 8 - (intOf i).toNat)
      case atStart => exact ⟨0, by omega, rfl, HW.out, HB.out⟩
      case round =>
        obtain ⟨j, hj, rfl, hX, hB⟩ := hrel
        by_cases hlt : j < 8
        · have h8 : (mixl r s j).length = 8 := mixl_length r s j
          have hms : m ≥ w.heap.size + 2 := L3.out.more
          have x0 : wr.cell? ⟨m + 2, j, none⟩ = some (.int .u32 (u (r.list.getD j 0))) := by
            rw [cell_of_row _ _ j _ _ _ hX, ucells_at _ j (by omega), mixl_at r s j hlt]
          have x1 : wr.cell? ⟨w.heap.size, j, none⟩ = some (.int .u32 (u (s.list.getD j 0))) := by
            rw [cell_of_row wr _ j (scells s) _ _ (by rw [hB.block _ (by omega)]; exact L3.out.st), scells_list s j hlt]
          have fz : wr.frozen? ⟨m + 2, j, none⟩ = false := frozen_of_row _ _ j _ _ hX
          have HS : Hid (∀ W1 : World, W1.heap = wr.heap → (W1.setCell ⟨m + 2, j, none⟩ (.int .u32 (u (r.list.getD j 0 + s.list.getD j 0)))).heap[m + 2]? = some (.cells (ucells (mixl r s (j + 1))) 59 (0, 0))) := by
            intro W1 h1
            rw [heap_setCell_same W1 _ j _ _ _ (by rw [h1]; exact hX), ucells_set, mixl_set r s j hlt]
          have HB2 := Lib.hid hB
          clear hX hB h8 hms
          generalize r.list.getD j 0 = rx at *
          generalize s.list.getD j 0 = sx at *
          have j8 : (j : Int) < 8 := by omega
          go_wp2_with fail
          refine wp_region_still_tail 9 (by kernel_rfl) (by kernel_rfl) ?_
          simp only [List.take_succ_cons, List.take_zero, List.drop_succ_cons, List.drop_zero]
          obtain ⟨W1, hW1⟩ : ∃ W : World, W = wr.drew := ⟨_, rfl⟩
          change wpStill _ _ wr.drew _ _ _
          rw [← hW1]
          have y0 : W1.cell? ⟨m + 2, j, none⟩ = some (.int .u32 (u rx)) := by rw [hW1]; exact x0
          have y1 : W1.cell? ⟨w.heap.size, j, none⟩ = some (.int .u32 (u sx)) := by rw [hW1]; exact x1
          have yf : W1.frozen? ⟨m + 2, j, none⟩ = false := by rw [hW1]; exact fz
          have HW1 := Lib.hid hW1
          clear hW1 x0 x1 fz
          repeat (refine wpStill_step (fun K hK => ?_); go_simp; refine hK _ ?_; clear hK K)
          refine wpStill_nil ?_
          change wpList _ _ _ _ _ wr.drew
          rw [← HW1.out]
          go_wp2_with fail
          go_roundw
          case rel => exact ⟨j + 1, by omega, by go_num, HS.out W1 (by rw [HW1.out]; rfl), by rw [HW1.out]; exact (HB2.out.drew).setCell (Nat.le_refl _) _⟩
          case measure => simp [intOf]; omega
        · obtain rfl : j = 8 := by omega
          rw [show ((8 : Nat) : Int) = 8 from rfl]
          have hfin : ucells (mixl r s 8) = scells (comp s bl) := by
            rw [mixl_end, scells_eq]
            unfold comp
            rw [HR.out, plus_comm]
          rw [hfin] at hX
          have hzz : wr.heap[w.heap.size + 1]? = some (.cells (scells ⟨0, 0, 0, 0, 0, 0, 0, 0⟩) 59 (0, 0)) := by
            rw [hB.block _ (by have := L3.out.more; omega)]; exact L3.out.out
          clear hfin
          obtain ⟨z, hz⟩ : ∃ z, comp s bl = z := ⟨_, rfl⟩
          rw [hz] at hX
          have HCZ := Lib.hid hz
          clear hz
          have HX := Lib.hid hX
          have HB2 := Lib.hid hB
          have HZ := Lib.hid hzz
          clear hX hB hzz
          go_wp2_with (first
            | (refine wpList_load_row (o := ⟨some 113, _, _, _, _, _⟩) rfl 59 (.tmp 7) rfl (m + 2) rfl _ _ _ _ HX.out Tryd.underlying59 rfl (by rw [scells_size]; exact size_8) ?_)
            | (refine wpList_store_row (o := ⟨none, .store 59 (.tmp 4) (.tmp 113), _, _, _, _⟩) rfl 59 (.tmp 4) (.tmp 113) rfl (w.heap.size + 1) rfl (scells (z)) (scells ⟨0, 0, 0, 0, 0, 0, 0, 0⟩) rfl 59 HZ.out rfl size_8 (scells_one _) ?_))
          have HF : Hid ((wr.setRow (w.heap.size + 1) (scells (z))).heap[w.heap.size + 1]? = some (.cells (scells (z)) 59 (0, 0))) := setRow_heap wr _ _ _ _ _ HZ.out
          exact bodyPost_ret (v := .agg (scells (z))) (results_cell_row Tryd.results39 _ _ (w.heap.size + 1) _ _ _ _ rfl HF.out Tryd.underlying59 rfl (by rw [scells_size]; exact size_8)) rfl
            ⟨by rw [HCZ.out], (L3.out.below.trans (HB2.out.mono (by have := L3.out.more; omega))).grown (grown_setRow _ _ _) (Nat.le_trans L3.out.below.size HB2.out.size) (fun k hk => by injection hk with hk; omega)⟩
end Go.Proofs.YtjjdjdhkfmfchaaDoor

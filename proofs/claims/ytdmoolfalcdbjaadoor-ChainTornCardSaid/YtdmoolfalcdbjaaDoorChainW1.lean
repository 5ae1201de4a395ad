/- The walks of chain's of, next, First. -/
import Derived.Test.YtdmoolfalcdbjaaDoorChainPlain
import Derived.Test.YtdmoolfalcdbjaaDoorMakeB
import Derived.Test.YtdmoolfalcdbjaaDoorHolds
import Derived.Test.YtdmoolfalcdbjaaDoorShaR1
namespace Go.Proofs.YtdmoolfalcdbjaaDoor
set_option linter.unusedVariables false
set_option linter.unusedSimpArgs false
open Go.RowKit Sha Chain

theorem zero_link : ∀ w, (zeroValue 49).run Tryd.prog w = .ok (.agg (brow (zrow 32))) w := fun w => by kernel_rfl
theorem size_link : (Tryd.prog.info? 49).map (·.size) = some 32 := by kernel_rfl
theorem size_link' {l : List UInt8} (h : l.length = 32) : (Tryd.prog.info? 49).map (·.size) = some (brow l).size := by rw [brow_size, h]; exact size_link
theorem brow_one (l : List UInt8) : (brow l).all (·.oneCell') = true := by
  refine Array.all_eq_true_iff_forall_mem.2 fun v hv => ?_
  simp only [brow, List.mem_toArray] at hv
  exact bcells_one l v hv

/-- a slice of a whole link. -/
theorem run_slice_link (W : World) (b : Nat) : (Instr.sliceAt 49 (.pointer (some ⟨b, 0, none⟩)) none none none).run Tryd.prog W = .ok (.slice (some ⟨b, 0, none⟩) 32 32) W := by kernel_rfl

/-- copy of a text into the cells of an array. -/
theorem wpList_copy_arr {w : World} {ops : Array Oper} {rest : List Oper} {o : Oper} {ac : Act} {Q : Exit → Act → World → Prop} (hgd : o.guard = none) (d s : Operand)
    (ho : o.op = .call { callee := .builtin .copy, args := #[d, s], argTypes := #[44, 9] }) (g n cap : Nat) (l z : List UInt8) (t : TypeId) (hd : ac.eval d = .slice (some ⟨g, 0, none⟩) n cap) (hs : ac.eval s = .string ⟨l.toArray⟩)
    (hz : z.length = n) (hl : l.length = n) (hg : w.heap[g]? = some (.cells (brow z) t (0, 0)))
    (hh : ∀ w', w'.heap[g]? = some (.cells (brow l) t (0, 0)) → w.grownBy w' (some g) → wpList Tryd.prog ops Q rest (ac.put o.dst (.int .i64 (n : Int))) w') : wpList Tryd.prog ops Q (o :: rest) ac w := by
  obtain ⟨i0, hi, _, hz1, _⟩ := info_parts info_u8
  have hs1 : (Tryd.prog.info? 5).map (·.size) = some 1 := by rw [hi]; simp [hz1]
  have hk : n = Nat.min l.length n := by rw [hl]; exact (Nat.min_self n).symm
  have hr := run_copy_str (P := Tryd.prog) w 44 9 o.type 5 g 0 n cap n l _ _ Tryd.underlying44 hs1 hg hk (by rw [brow_size, hz]; omega)
  have e : ((brow z).toList.take 0 ++ bcells (l.take n) ++ (brow z).toList.drop (0 + n)).toArray = brow l := by
    rw [List.take_of_length_le (Nat.le_of_eq hl), List.drop_eq_nil_of_le (by simp [brow, bcells, hz])]
    simp [brow]
  rw [e] at hr
  exact Lib.wpList_copy_run w hgd d s _ _ ho _ _ hd hs hr (hh _ (setRow_heap w g _ _ _ _ hg) (grown_setRow w g _))

/-- a load and a store of a whole link that lies in its own block. -/
theorem wpList_self_link {w : World} {ops : Array Oper} {rest : List Oper} {o : Oper} {ac : Act} {Q : Exit → Act → World → Prop} (hgd : o.guard = none) (x y : Operand) (ho : o.op = .store 49 x y) (g : Nat)
    (hx : ac.eval x = .pointer (some ⟨g, 0, none⟩)) (l z : List UInt8) (hy : ac.eval y = .agg (brow l)) (hg : w.heap[g]? = some (.cells (brow z) 49 (0, 0))) (h1 : z.length = 32) (h2 : l.length = 32)
    (h : ∀ w', w'.heap[g]? = some (.cells (brow l) 49 (0, 0)) → w.grownBy w' (some g) → wpList Tryd.prog ops Q rest (ac.put o.dst undef) w') : wpList Tryd.prog ops Q (o :: rest) ac w :=
  wpList_store_row hgd 49 x y ho g hx (brow l) (brow z) hy 49 hg (by rw [brow_size, brow_size, h1, h2]) (size_link' h2) (brow_one l) (h _ (setRow_heap w g _ _ _ _ hg) (grown_setRow w g _))

set_option maxRecDepth 20000 in
set_option maxHeartbeats 2000000 in
theorem of_any (s : List UInt8) (hs : s.length = 32) (w : World) :
    Calls Tryd.prog 28 #[.string ⟨s.toArray⟩] w fun e w' => e = .returned (.agg (brow s)) ∧ Below w.heap.size w w' := by
  have hz := zero_link
  have HS := Lib.hid hs
  have hsl := fun W => run_slice_link W w.heap.size
  have HI := Lib.hid (size_link' hs)
  clear hs
  go_enter Tryd.func28, Tryd.ntmps28
  go_wp2_with (first
    | (refine wpList_copy_arr (o := ⟨some 5, _, _, _, _, _⟩) rfl (.tmp 3) (.tmp 4) rfl w.heap.size 32 32 s (zrow 32) 49 rfl rfl (zrow_length 32) HS.out (heap_alloc_new w _) ?_; intro W1 hW1 hG1; have H1 := Lib.hid hW1; have B1 := Lib.hid (((Below.refl _ _).alloc (Nat.le_refl _) _).grown hG1 (by simp) (fun k hk => Nat.le_of_eq (Option.some.inj hk))); clear hW1 hG1)
    | (refine wpList_load_row (o := ⟨some 6, _, _, _, _, _⟩) rfl 49 (.tmp 2) rfl w.heap.size rfl _ _ _ _ H1.out Tryd.underlying49 rfl HI.out ?_)
    | (refine wpList_self_link (o := ⟨none, .store 49 (.tmp 2) (.tmp 6), _, _, _, _⟩) rfl (.tmp 2) (.tmp 6) rfl w.heap.size rfl s s rfl H1.out HS.out HS.out ?_; intro W2 hW2 hG2; have H2 := Lib.hid hW2; have B2 := Lib.hid (B1.out.grown hG2 B1.out.size (fun k hk => Nat.le_of_eq (Option.some.inj hk))); clear hW2 hG2))
  exact bodyPost_ret (v := .agg (brow s)) (results_cell_row Tryd.results28 _ _ w.heap.size _ _ _ _ rfl H2.out Tryd.underlying49 rfl HI.out) rfl ⟨rfl, B2.out⟩

set_option maxRecDepth 20000 in
set_option maxHeartbeats 2000000 in
theorem next_any (l r : List UInt8) (hl : l.length = 32) (hr : r.length < 1000000000) (w : World) (hkl : KLaid w) :
    Calls Tryd.prog 29 #[.agg (brow l), .string ⟨r.toArray⟩] w fun e w' => e = .returned (.agg (brow (nextL l r))) ∧ Below w.heap.size w w' := by
  have hz := zero_link
  have HL := Lib.hid hl
  have HK := Lib.hid hkl
  have hsl := fun W => run_slice_link W w.heap.size
  have HI := Lib.hid (size_link' (nextL_length l r))
  have HN := Lib.hid (nextL_length l r)
  have hb : (brow l).size = 32 := by rw [brow_size, hl]
  clear hl hkl
  go_enter Tryd.func29, Tryd.ntmps29
  go_wp2_with (refine wpList_box_row (o := ⟨some 2, _, _, _, _, _⟩) rfl 49 (.tmp 0) rfl (brow l) rfl ?_)
  have HA : Hid (((w.alloc (.cells (brow l) 49)).alloc (.cells (brow (zrow 32)) 49)).heap[w.heap.size]? = some (.cells (brow l) 49 (0, 0))) := (Below.heap_alloc _ _ _ (by simp)).trans (heap_alloc_new w _)
  have HB : Hid (((w.alloc (.cells (brow l) 49)).alloc (.cells (brow (zrow 32)) 49)).heap[w.heap.size + 1]? = some (.cells (brow (zrow 32)) 49 (0, 0))) := by
    have := heap_alloc_new (w.alloc (.cells (brow l) 49)) (.cells (brow (zrow 32)) 49)
    rwa [World.size_alloc] at this
  have B0 : Hid (Below w.heap.size w ((w.alloc (.cells (brow l) 49)).alloc (.cells (brow (zrow 32)) 49))) := ((Below.refl _ _).alloc (Nat.le_refl _) _).alloc (by simp) _
  generalize (w.alloc (.cells (brow l) 49)).alloc (.cells (brow (zrow 32)) 49) = W0 at *
  clear hz hb
  refine (new_some W0).mono ?_; rintro e w1 ⟨rfl, h1, b1, s1⟩
  have H1 := Lib.hid h1
  have B1 := Lib.hid (below_more B0.out b1 B0.out.size)
  have HA1 := Lib.hid ((b1.block _ (lt_of_block HA.out)).trans HA.out)
  have HB1 := Lib.hid ((b1.block _ (lt_of_block HB.out)).trans HB.out)
  have HG : Hid (W0.heap.size ≠ 0) := by have := (HK.out.below B0.out).lt; show _ ≠ _; omega
  have HC0 : Hid (w.heap.size + 1 < W0.heap.size) := lt_of_block HB.out
  have hcv := conv_brow (cap := 32) HL.out HA1.out
  clear h1 b1 s1
  generalize W0.heap.size = c at *
  go_wp2_with fail
  refine (write_some c [] l w1 H1.out (HK.out.below B1.out) HG.out (by have := HL.out; simp; omega)).mono ?_; rintro e w2 ⟨rfl, h2, g2⟩
  rw [List.nil_append] at h2
  have H2 := Lib.hid h2
  have B2 := Lib.hid (B1.out.grown g2 B1.out.size (fun k hk => by have := HC0.out; have := Option.some.inj hk; omega))
  have HB2 := Lib.hid ((g2.block _ (lt_of_block HB1.out) (fun e => by have := HC0.out; have := Option.some.inj e; omega)).trans HB1.out)
  clear h2 g2 hcv hsl
  go_wp2_with fail
  refine (write_some c l r w2 H2.out (HK.out.below B2.out) HG.out (by have := HL.out; omega)).mono ?_; rintro e w3 ⟨rfl, h3, g3⟩
  have H3 := Lib.hid h3
  have B3 := Lib.hid (B2.out.grown g3 B2.out.size (fun k hk => by have := HC0.out; have := Option.some.inj hk; omega))
  have HB3 := Lib.hid ((g3.block _ (lt_of_block HB2.out) (fun e => by have := HC0.out; have := Option.some.inj e; omega)).trans HB2.out)
  clear h3 g3
  go_wp2_with fail
  refine (sum_some c (l ++ r) w3 H3.out (HK.out.below B3.out) (by have := HL.out; simp; omega)).mono ?_; rintro e w4 ⟨rfl, b4⟩
  have B4 := Lib.hid (below_more B3.out b4 B3.out.size)
  have HB4 := Lib.hid ((b4.block _ (lt_of_block HB3.out)).trans HB3.out)
  clear b4
  go_wp2_with fail
  refine (of_any (sha (l ++ r)) (sha_length _) w4).mono ?_; rintro e w5 ⟨rfl, b5⟩
  have B5 := Lib.hid (below_more B4.out b5 B4.out.size)
  have HB5 := Lib.hid ((b5.block _ (lt_of_block HB4.out)).trans HB4.out)
  clear b5
  go_wp2_with (refine wpList_self_link (o := ⟨none, .store 49 (.tmp 4) (.tmp 16), _, _, _, _⟩) rfl (.tmp 4) (.tmp 16) rfl (w.heap.size + 1) rfl (sha (l ++ r)) (zrow 32) rfl HB5.out (zrow_length 32) (sha_length _) ?_; intro W6 hW6 hG6; have H6 := Lib.hid hW6; have B6 := Lib.hid (B5.out.grown hG6 B5.out.size (fun k hk => by have := Option.some.inj hk; omega)); clear hW6 hG6)
  exact bodyPost_ret (v := .agg (brow (sha (l ++ r)))) (results_cell_row Tryd.results29 _ _ (w.heap.size + 1) _ _ _ _ rfl H6.out Tryd.underlying49 rfl HI.out) rfl ⟨rfl, B6.out⟩

set_option maxRecDepth 20000 in
theorem first_any (w : World) :
    Calls Tryd.prog 21 #[] w fun e w' => e = .returned (.string ⟨zlink.toArray⟩) ∧ Below w.heap.size w w' := by
  have hz := zero_link
  have hsl := fun W => run_slice_link W w.heap.size
  have hcv := conv_brow (w := w.alloc (.cells (brow (zrow 32)) 49)) (cap := 32) (zrow_length 32) (heap_alloc_new w _)
  have HZ : Hid (zlink = zrow 32) := rfl
  go_enter Tryd.func21, Tryd.ntmps21
  go_wp2
  go_ret
  exact ⟨congrArg (fun l : List UInt8 => Ending.returned (.string ⟨l.toArray⟩)) HZ.out.symm, (Below.refl _ _).alloc (Nat.le_refl _) _⟩
end Go.Proofs.YtdmoolfalcdbjaaDoor

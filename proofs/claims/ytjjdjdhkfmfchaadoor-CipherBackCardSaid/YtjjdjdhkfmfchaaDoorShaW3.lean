/- The walk of (*sha.Hash).take. -/
import Derived.Test.YtjjdjdhkfmfchaaDoorShaW2
import Derived.StillTailTactics
import Derived.Deep.QuietTactic
import Derived.BigQuiet
import Derived.WalkSmall
import Derived.Deep.LoopGhost
namespace Go.Proofs.YtjjdjdhkfmfchaaDoor
set_option linter.unusedVariables false
set_option linter.unusedSimpArgs false
open Go.RowKit Sha
attribute [local go_sem] u_or u_xor u_and u_add

theorem quiet_eq {P : Program} {f : FuncId} {args : Array Value} {w : World} {n : Nat} {v : Value}
    (h : Calls P f args (w.drewN n) fun e w' => e = .returned v ∧ w.drewN n = w') : Calls P f args (w.drewN n) fun e w'' => e = .returned v ∧ ∃ m, w'' = w.drewN m :=
  h.mono fun _ _ ⟨he, hm⟩ => ⟨he, n, hm.symm⟩

/-- the cells of sixteen words. -/
def wcells (f : Nat → UInt32) : Array Value := ((List.range 16).map fun j => Value.int .u32 (u (f j))).toArray
theorem wcells_size (f : Nat → UInt32) : (wcells f).size = 16 := by simp [wcells]
theorem wcells_at (f : Nat → UInt32) (j : Nat) (h : j < 16) : (wcells f)[j]? = some (.int .u32 (u (f j))) := by
  simp [wcells, h]
theorem wcells_set (f g : Nat → UInt32) (j : Nat) (x : UInt32) (hx : g j = x) (h : ∀ i, i < 16 → i ≠ j → g i = f i) : (wcells f).setIfInBounds j (.int .u32 (u x)) = wcells g := by
  apply Array.ext
  · simp [wcells]
  · intro i h1 h2
    have hi : i < 16 := by simpa [wcells] using h2
    rw [Array.getElem_setIfInBounds (by simpa [wcells] using hi)]
    split
    · subst j; simp [wcells, hx]
    · rename_i hne
      simp [wcells, h i hi (fun e => hne e.symm)]

theorem zero_words : ∀ w, (zeroValue 65).run Tryd.prog w = .ok (.agg (wcells fun _ => 0)) w := fun w => by kernel_rfl

/-- the numbers of the rounds lie in their variable. -/
def KLaid (w : World) : Prop := ∀ i, i < 64 → w.cell? ⟨0, i, none⟩ = some (.int .u32 (u (kk.getD i 0)))

theorem run_sliceArr {P : Program} (W : World) {t e : TypeId} {n : Nat} {i : TypeInfo} (ht : P.underlying t = some (.array n e)) (hi : P.info? e = some i) (hsz : i.size = 1) (b off lo : Nat) (hc : lo + 4 ≤ n) (l h : Int) (hl : l = lo) (hh : h = lo + 4) :
    (Instr.sliceAt t (.pointer (some ⟨b, off, none⟩)) (some (.int .i64 l)) (some (.int .i64 h)) none).run P W = .ok (.slice (some ⟨b, off + lo, none⟩) 4 (n - lo)) W := by
  subst hl hh
  have e : ((lo : Int) + 4).toNat = lo + 4 := by omega
  have b1 : ∀ W : World, (Instr.sliceBound (.int .i64 ((lo : Int) + 4)) n .sliceAlen).run P W = .ok (lo + 4) W := fun W => by rw [run_sliceBound _ _ _ _ _ (by omega) (by omega), e]
  have b2 : ∀ W : World, (Instr.sliceBound (.int .i64 (lo : Int)) (lo + 4) .sliceB).run P W = .ok lo W := fun W => by rw [run_sliceBound _ _ _ _ _ (by omega) (by omega), Int.toNat_natCast]
  simp [Instr.sliceAt, Instr.sureAddr, run_underlying ht, Instr.sliceBounds, b1, b2, sizeOf, typeInfo, hi, hsz, Addr.add]
  rw [if_neg (by omega)]
  split
  · subst lo; rfl
  · rfl

theorem info_u8 : (Tryd.prog.info? 5).map (fun i => (i.zero, i.size, i.bytes)) = some (some (.int .u8 0), 1, 1) := by kernel_rfl

/-- the words that are read: those ahead of t whole, of that at t k bytes. -/
def part (bl : List UInt8) (t k j : Nat) : UInt32 := if j < t then wd bl j else if j = t then wp bl t k else 0

theorem by8_u32 (c : UInt8) : IntKind.u32.wrap (by8 c) = u c.toUInt32 := by
  rw [IntKind.wrap_u32]
  unfold by8 u
  have := c.toNat_lt
  rw [UInt8.toNat_toUInt32]
  omega
attribute [local go_sem] by8_u32
theorem wcells_congr (f g : Nat → UInt32) (h : ∀ j, j < 16 → f j = g j) : wcells f = wcells g := by
  have e : (List.range 16).map (fun j => Value.int .u32 (u (f j))) = (List.range 16).map (fun j => Value.int .u32 (u (g j))) :=
    List.map_congr_left fun j hj => by rw [h j (List.mem_range.1 hj)]
  unfold wcells
  rw [e]
theorem part_next (bl : List UInt8) (t : Nat) : wcells (part bl t 4) = wcells (part bl (t + 1) 0) := by
  refine wcells_congr _ _ fun j hj => ?_
  unfold part
  by_cases h1 : j < t
  · rw [if_pos h1, if_pos (by omega)]
  · by_cases h2 : j = t
    · subst h2; rw [if_neg h1, if_pos rfl, if_pos (by omega)]; rfl
    · rw [if_neg h1, if_neg h2, if_neg (by omega)]
      by_cases h3 : j = t + 1
      · rw [if_pos h3]; rfl
      · rw [if_neg h3]
theorem part_start (bl : List UInt8) : wcells (part bl 0 0) = wcells (fun _ => 0) := by
  refine wcells_congr _ _ fun j hj => ?_
  unfold part
  rw [if_neg (by omega)]
  by_cases h3 : j = 0
  · rw [if_pos h3]; rfl
  · rw [if_neg h3]
theorem part_end (bl : List UInt8) : wcells (part bl 16 0) = wcells (fun j => W bl (circ 16 j)) := by
  refine wcells_congr _ _ fun j hj => ?_
  unfold part
  rw [if_pos hj, circ_start j hj, W_first bl j hj]

theorem rnd_one (a b c d e f g h k w : UInt32) : h + (rot e 6 ^^^ rot e 11 ^^^ rot e 25) + (g ^^^ e &&& (f ^^^ g)) + k + w = t1 ⟨a, b, c, d, e, f, g, h⟩ k w := by
  unfold t1 sg1
  rw [← ch_code]
  rfl
theorem rnd_two (a b c d e f g h : UInt32) : (rot a 2 ^^^ rot a 13 ^^^ rot a 22) + (a &&& (b ||| c) ||| b &&& c) = t2 ⟨a, b, c, d, e, f, g, h⟩ := by
  unfold t2 sg0
  rw [← maj_code]
  rfl
theorem nxt_code (x y z v : UInt32) : z + ((rot x 7 ^^^ rot x 18 ^^^ x >>> 3) + v + (rot y 17 ^^^ rot y 19 ^^^ y >>> 10)) = z + sm0 x + v + sm1 y := by
  show z + (sm0 x + v + sm1 y) = z + sm0 x + v + sm1 y
  rw [← UInt32.add_assoc, ← UInt32.add_assoc]

theorem idx8 (r : St) (j : Nat) (hj : j < 8) (W : World) :
    (Instr.index 59 (.agg #[.int .u32 (u r.a), .int .u32 (u r.b), .int .u32 (u r.c), .int .u32 (u r.d), .int .u32 (u r.e), .int .u32 (u r.f), .int .u32 (u r.g), .int .u32 (u r.h)]) (.int .i64 (j : Int))).run Tryd.prog W = .ok (.int .u32 (u (r.list.getD j 0))) W := by
  obtain rfl | rfl | rfl | rfl | rfl | rfl | rfl | rfl : j = 0 ∨ j = 1 ∨ j = 2 ∨ j = 3 ∨ j = 4 ∨ j = 5 ∨ j = 6 ∨ j = 7 := by omega
  all_goals kernel_rfl

/-- a state to which the first j words of another are added. -/
def mixl (s r : St) (j : Nat) : List UInt32 := (List.range 8).map fun i => if i < j then s.list.getD i 0 + r.list.getD i 0 else s.list.getD i 0
theorem mixl_zero (s r : St) : mixl s r 0 = s.list := rfl
theorem mixl_end (s r : St) : mixl s r 8 = (s.plus r).list := rfl
theorem mixl_length (s r : St) (j : Nat) : (mixl s r j).length = 8 := by simp [mixl]
theorem mixl_at (s r : St) (j : Nat) (hj : j < 8) : (mixl s r j)[j]'(by rw [mixl_length]; exact hj) = s.list.getD j 0 := by
  simp [mixl]
theorem mixl_set (s r : St) (j : Nat) (hj : j < 8) : (mixl s r j).set j (s.list.getD j 0 + r.list.getD j 0) = mixl s r (j + 1) := by
  match j, hj with
  | 0, _ => rfl
  | 1, _ => rfl
  | 2, _ => rfl
  | 3, _ => rfl
  | 4, _ => rfl
  | 5, _ => rfl
  | 6, _ => rfl
  | 7, _ => rfl
theorem hcells_set (st : List UInt32) (wait : List UInt8) (n : Nat) (i : Nat) (h : i < st.length) (x : UInt32) : (hcells st wait n).setIfInBounds i (.int .u32 (u x)) = hcells (st.set i x) wait n := by
  unfold hcells
  simp only [List.setIfInBounds_toArray]
  rw [List.set_append_left _ _ (by simpa using h), List.map_set]

set_option maxRecDepth 100000 in
set_option maxHeartbeats 4000000 in
theorem take_any (b : Nat) (s : St) (wait : List UInt8) (n : Nat) (w : World) (h : HashAt w b s.list wait n) (hk : KLaid w) (hb0 : b ≠ 0) :
    Calls Tryd.prog 37 #[.pointer (some ⟨b, 0, none⟩)] w fun e w' => e = .returned (.tuple #[]) ∧ HashAt w' b (comp s wait).list wait n ∧ w.grownBy w' (some b) := by
  have H := Lib.hid h
  have HK := Lib.hid hk
  have hz := zero_words
  clear h hk
  go_enter Tryd.func37, Tryd.ntmps37
  go_wp2
  clear hz
  go_loopw [3, 21] (fun x i wr => ∃ t : Nat, t ≤ 16 ∧ i = .int .i64 t ∧ wr.heap[w.heap.size]? = some (.cells (wcells (part wait t 0)) 65 (0, 0)) ∧ Below w.heap.size w wr) (fun _ i _ => 16 - (intOf i).toNat)
  case atStart => exact ⟨0, by omega, rfl, by rw [heap_alloc_new, part_start], (Below.refl _ _).alloc (Nat.le_refl _) _⟩
  case round =>
    obtain ⟨t, ht, rfl, hW, hB⟩ := hrel
    by_cases hlt : t < 16
    · obtain ⟨i0, hi, _, hz1, _⟩ := info_parts info_u8
      have hsl := fun W => run_sliceArr (P := Tryd.prog) W Tryd.underlying60 hi hz1 b 8 (4 * t) (by omega) (4 * (t : Int)) (4 * (t : Int) + 4) (by omega) (by omega)
      have HWB := Lib.hid (And.intro hW hB)
      clear hi hz1 hW hB
      go_wp2
      obtain ⟨wo, rfl⟩ : ∃ wo : World, wo = wr := ⟨_, rfl⟩
      go_loopw [34] (fun i wr => ∃ k : Nat, k ≤ 4 ∧ i = .int .i64 k ∧ wr.heap[w.heap.size]? = some (.cells (wcells (part wait t k)) 65 (0, 0)) ∧ Below w.heap.size w wr) (fun i _ => 4 - (intOf i).toNat)
      case atStart => exact ⟨0, by omega, rfl, HWB.out.1, HWB.out.2⟩
      case round =>
        obtain ⟨k, hk, rfl, hW, hB⟩ := hrel
        by_cases hkl : k < 4
        · have hl := H.out.lt
          have h64 := H.out.wait64
          have hix : 4 * t + k < wait.length := by omega
          have hcw : wr.cell? ⟨b, 8 + 4 * t + k, none⟩ = some (.int .u8 (by8 (wait[4 * t + k]'hix))) := by
            rw [hB.cell (p := ⟨b, 8 + 4 * t + k, none⟩) hl, show 8 + 4 * t + k = 8 + (4 * t + k) by omega]
            exact H.out.waits (4 * t + k) (by omega)
          have hct : wr.cell? ⟨w.heap.size, t, none⟩ = some (.int .u32 (u (wp wait t k))) := by
            rw [cell_of_row _ _ t _ _ _ hW, wcells_at _ t hlt]
            unfold part
            rw [if_neg (by omega), if_pos rfl]
          have hfz : wr.frozen? ⟨w.heap.size, t, none⟩ = false := frozen_of_row _ _ t _ _ hW
          have e256 : IntKind.u32.wrap (u (wp wait t k) * 256) = u (wp wait t k <<< 8) := u_shl _ 8 (by omega)
          have hnew : wp wait t (k + 1) = (wp wait t k <<< 8) ||| (wait[4 * t + k]'hix).toUInt32 := by
            simp only [wp]
            rw [List.getD_eq_getElem?_getD, List.getElem?_eq_getElem hix, Option.getD_some]
          have HN : Hid ((wr.setCell ⟨w.heap.size, t, none⟩ (.int .u32 (u ((wp wait t k <<< 8) ||| (wait[4 * t + k]'hix).toUInt32)))).heap[w.heap.size]? = some (.cells (wcells (part wait t (k + 1))) 65 (0, 0))) := by
            show _ = _
            rw [heap_setCell_same _ _ t _ _ _ hW, wcells_set (part wait t k) (part wait t (k + 1)) t _ (by unfold part; rw [if_neg (by omega), if_pos rfl]; exact hnew) (fun i _ hne => by
              unfold part
              by_cases h1 : i < t
              · rw [if_pos h1, if_pos h1]
              · rw [if_neg h1, if_neg h1, if_neg hne, if_neg hne])]
          have HB := Lib.hid (hB.setCell (p := ⟨w.heap.size, t, none⟩) (Nat.le_refl _) (.int .u32 (u ((wp wait t k <<< 8) ||| (wait[4 * t + k]'hix).toUInt32))))
          clear hW hB hnew hl h64
          generalize wait[4 * t + k]'hix = c at *
          clear hix
          go_wp2
          go_roundw
          case rel => exact ⟨k + 1, by omega, by go_num, HN.out, HB.out⟩
          case measure => simp [intOf]; omega
        · obtain rfl : k = 4 := by omega
          have HN := Lib.hid (And.intro hW hB)
          clear hW hB
          go_wp2
          go_roundw
          case rel => exact ⟨t + 1, by omega, by go_num, by rw [← part_next]; exact HN.out.1, HN.out.2⟩
          case measure => simp [intOf]; omega
    · obtain rfl : t = 16 := by omega
      rw [part_end] at hW
      have e16 : ((16 : Nat) : Int) = 16 := rfl
      rw [e16]
      clear e16
      have hl := H.out.lt
      have st : ∀ i (hi : i < 8), wr.cell? ⟨b, i, none⟩ = some (.int .u32 (u (s.list[i]'hi))) := fun i hi => by
        rw [hB.cell (p := ⟨b, i, none⟩) hl]; exact H.out.state i hi
      have c0 : wr.cell? ⟨b, 0, none⟩ = some (.int .u32 (u s.a)) := st 0 (by omega)
      have c1 : wr.cell? ⟨b, 1, none⟩ = some (.int .u32 (u s.b)) := st 1 (by omega)
      have c2 : wr.cell? ⟨b, 2, none⟩ = some (.int .u32 (u s.c)) := st 2 (by omega)
      have c3 : wr.cell? ⟨b, 3, none⟩ = some (.int .u32 (u s.d)) := st 3 (by omega)
      have c4 : wr.cell? ⟨b, 4, none⟩ = some (.int .u32 (u s.e)) := st 4 (by omega)
      have c5 : wr.cell? ⟨b, 5, none⟩ = some (.int .u32 (u s.f)) := st 5 (by omega)
      have c6 : wr.cell? ⟨b, 6, none⟩ = some (.int .u32 (u s.g)) := st 6 (by omega)
      have c7 : wr.cell? ⟨b, 7, none⟩ = some (.int .u32 (u s.h)) := st 7 (by omega)
      clear st hl
      have HWB := Lib.hid (And.intro hW hB)
      clear hW hB
      go_wp2_with fail
      go_quiet (fail)
      go_wp2_with fail
      clear c0 c1 c2 c3 c4 c5 c6 c7
      go_loopw [6, 7, 8, 9, 10, 11, 12, 13, 89] (fun xa xb xc xd xe xf xg xh i wr => ∃ t : Nat, t ≤ 64 ∧ xa = .int .u32 (u (rounds s wait t).a) ∧ xb = .int .u32 (u (rounds s wait t).b) ∧ xc = .int .u32 (u (rounds s wait t).c) ∧ xd = .int .u32 (u (rounds s wait t).d) ∧ xe = .int .u32 (u (rounds s wait t).e) ∧ xf = .int .u32 (u (rounds s wait t).f) ∧ xg = .int .u32 (u (rounds s wait t).g) ∧ xh = .int .u32 (u (rounds s wait t).h) ∧ i = .int .i64 t ∧
        wr.heap[w.heap.size]? = some (.cells (wcells (fun j => W wait (circ (max t 16) j))) 65 (0, 0)) ∧ Below w.heap.size w wr) (fun _ _ _ _ _ _ _ _ i _ => 64 - (intOf i).toNat)
      case atStart => exact ⟨0, by omega, rfl, rfl, rfl, rfl, rfl, rfl, rfl, rfl, rfl, HWB.out.1, below_drewN HWB.out.2 _⟩
      case round =>
        obtain ⟨t, ht, rfl, rfl, rfl, rfl, rfl, rfl, rfl, rfl, rfl, hW, hB⟩ := hrel
        rcases hr : rounds s wait t with ⟨va, vb, vc, vd, ve, vf, vg, vh⟩
        simp only
        have HR := Lib.hid hr
        clear hr
        by_cases hlt : t < 64
        · have hg : 0 < w.heap.size := World.block_lt_of_cell? w _ (HK.out 0 (by omega))
          have k0 : wr.cell? ⟨0, t, none⟩ = some (.int .u32 (u (kk.getD t 0))) := by
            rw [hB.cell (p := ⟨0, t, none⟩) hg]; exact HK.out t hlt
          have HN := Lib.hid (show rounds s wait (t + 1) = rnd (rounds s wait t) (kk.getD t 0) (W wait t) from rfl)
          rw [HR.out] at HN
          have HG := Lib.hid hg
          clear hg
          by_cases h16 : t < 16
          · obtain ⟨m, hm⟩ : ∃ m, m = t % 16 := ⟨_, rfl⟩
            have hm16 : m < 16 := by omega
            have em : ((t : Int)).tmod 16 = (m : Int) := by rw [Int.tmod_eq_emod_of_nonneg (by omega)]; omega
            have w0 : wr.cell? ⟨w.heap.size, m, none⟩ = some (.int .u32 (u (W wait t))) := by
              rw [cell_of_row _ _ m _ _ _ hW, wcells_at _ m hm16, show max t 16 = 16 by omega, circ_start m hm16, show m = t by omega]
            have HW2 : Hid (wr.heap[w.heap.size]? = some (.cells (wcells (fun j => W wait (circ (max (t + 1) 16) j))) 65 (0, 0))) := by
              rw [show max (t + 1) 16 = max t 16 by omega]; exact hW
            have HB := Lib.hid hB
            clear hW hB hm
            generalize kk.getD t 0 = kx at *
            generalize W wait t = wx at *
            go_wp2_with fail
            go_quiet ((go_at_call 40; exact quiet_eq (right_any _ _ _ (by decide))))
            go_wp2_with (go_at_call 40; refine (right_any _ _ _ (by decide)).mono ?_; rintro e w' ⟨rfl, rfl⟩)
            go_roundw
            case rel =>
              have E : ∀ {x y : UInt32}, x = y → Value.int .u32 (u x) = Value.int .u32 (u y) := fun h => by rw [h]
              refine ⟨t + 1, by omega, E ?_, E ?_, E ?_, E ?_, E ?_, E ?_, E ?_, E ?_, by go_num, HW2.out, below_drewN HB.out _⟩
              · rw [HN.out, rnd_one va vb vc vd, rnd_two va vb vc vd ve vf vg vh]; rfl
              · rw [HN.out]; rfl
              · rw [HN.out]; rfl
              · rw [HN.out]; rfl
              · rw [HN.out, rnd_one va vb vc vd]; rfl
              · rw [HN.out]; rfl
              · rw [HN.out]; rfl
              · rw [HN.out]; rfl
            case measure => simp [intOf]; omega
          · obtain ⟨m0, hm0⟩ : ∃ m, m = t % 16 := ⟨_, rfl⟩
            obtain ⟨m1, hm1⟩ : ∃ m, m = (t + 1) % 16 := ⟨_, rfl⟩
            obtain ⟨m9, hm9⟩ : ∃ m, m = (t + 9) % 16 := ⟨_, rfl⟩
            obtain ⟨m14, hm14⟩ : ∃ m, m = (t + 14) % 16 := ⟨_, rfl⟩
            have l0 : m0 < 16 := by omega
            have l1 : m1 < 16 := by omega
            have l9 : m9 < 16 := by omega
            have l14 : m14 < 16 := by omega
            have em0 : ((t : Int)).tmod 16 = (m0 : Int) := by rw [Int.tmod_eq_emod_of_nonneg (by omega)]; omega
            have em1 : ((t : Int) + 1).tmod 16 = (m1 : Int) := by rw [Int.tmod_eq_emod_of_nonneg (by omega)]; omega
            have em9 : ((t : Int) + 9).tmod 16 = (m9 : Int) := by rw [Int.tmod_eq_emod_of_nonneg (by omega)]; omega
            have em14 : ((t : Int) + 14).tmod 16 = (m14 : Int) := by rw [Int.tmod_eq_emod_of_nonneg (by omega)]; omega
            have ew1 : IntKind.i64.wrap ((t : Int) + 1) = (t : Int) + 1 := IntWalk.i64_in _ (by omega)
            have ew9 : IntKind.i64.wrap ((t : Int) + 9) = (t : Int) + 9 := IntWalk.i64_in _ (by omega)
            have ew14 : IntKind.i64.wrap ((t : Int) + 14) = (t : Int) + 14 := IntWalk.i64_in _ (by omega)
            rw [show max t 16 = t by omega] at hW
            have cw : ∀ j, j < 16 → wr.cell? ⟨w.heap.size, j, none⟩ = some (.int .u32 (u (W wait (circ t j)))) := fun j hj => by
              rw [cell_of_row _ _ j _ _ _ hW, wcells_at _ j hj]
            have x0 := cw m0 l0
            have x1 := cw m1 l1
            have x9 := cw m9 l9
            have x14 := cw m14 l14
            have hfz : wr.frozen? ⟨w.heap.size, m0, none⟩ = false := frozen_of_row _ _ m0 _ _ hW
            have hc0 := circ_0 t (by omega)
            have hc1 := circ_1 t (by omega)
            have hc9 := circ_9 t (by omega)
            have hc14 := circ_14 t (by omega)
            rw [← hm0] at hc0
            rw [← hm1] at hc1
            rw [← hm9] at hc9
            rw [← hm14] at hc14
            rw [hc0] at x0
            rw [hc1] at x1
            rw [hc9] at x9
            rw [hc14] at x14
            have HX := Lib.hid (W_next wait t (by omega) hlt)
            have HW2 : Hid (∀ W0 : World, W0.heap[w.heap.size]? = wr.heap[w.heap.size]? → (W0.setCell ⟨w.heap.size, m0, none⟩ (.int .u32 (u (W wait t)))).heap[w.heap.size]? = some (.cells (wcells (fun j => W wait (circ (max (t + 1) 16) j))) 65 (0, 0))) := by
              intro W0 h0
              rw [heap_setCell_same _ _ m0 _ _ _ (h0.trans hW), wcells_set _ (fun j => W wait (circ (max (t + 1) 16) j)) m0 (W wait t)]
              · show W wait (circ (max (t + 1) 16) m0) = _
                rw [show max (t + 1) 16 = t + 1 by omega, circ_next t m0 (by omega) l0, if_pos hm0]
              · intro i hi hne
                show W wait (circ (max (t + 1) 16) i) = W wait (circ t i)
                rw [show max (t + 1) 16 = t + 1 by omega, circ_next t i (by omega) hi, if_neg (by omega)]
            have HB := Lib.hid hB
            clear hW hB hm0 hm1 hm9 hm14 cw hc0 hc1 hc9 hc14
            have i16 : (16 : Int) ≤ t := by omega
            have j0 : (m0 : Int) < 16 := by omega
            have j9 : (m9 : Int) < 16 := by omega
            generalize kk.getD t 0 = kx at *
            generalize hz0 : W wait (t - 16) = z0 at *
            generalize hz1 : W wait (t - 15) = z1 at *
            generalize hz9 : W wait (t - 7) = z9 at *
            generalize hz14 : W wait (t - 2) = z14 at *
            clear hz0 hz1 hz9 hz14
            generalize hwx : W wait t = wx at *
            clear hwx
            have hE : z0 + ((rot z1 7 ^^^ rot z1 18 ^^^ z1 >>> 3) + z9 + (rot z14 17 ^^^ rot z14 19 ^^^ z14 >>> 10)) = wx := (nxt_code z1 z14 z0 z9).trans HX.out.symm
            go_wp2_with fail
            go_quiet (fail)
            go_wp2_with fail
            have e3 : u z1 / (8 : Int) = u (z1 >>> 3) := u_shr z1 3 (by omega)
            have e10 : u z14 / (1024 : Int) = u (z14 >>> 10) := u_shr z14 10 (by omega)
            refine wp_region_still_tail 29 (by kernel_rfl) (by kernel_rfl) ?_
            simp only [List.take_succ_cons, List.take_zero, List.drop_succ_cons, List.drop_zero]
            obtain ⟨W1, hW1⟩ : ∃ W : World, W = (wr.drewN nq).drew := ⟨_, rfl⟩
            change wpStill _ _ (wr.drewN nq).drew _ _ _
            rw [← hW1]
            have y0 : W1.cell? ⟨w.heap.size, m0, none⟩ = some (.int .u32 (u z0)) := by rw [hW1]; exact x0
            have y9 : W1.cell? ⟨w.heap.size, m9, none⟩ = some (.int .u32 (u z9)) := by rw [hW1]; exact x9
            have yf : W1.frozen? ⟨w.heap.size, m0, none⟩ = false := by rw [hW1]; exact hfz
            have HW1 := Lib.hid hW1
            clear hW1 x0 x9 x1 x14 hfz
            repeat (refine wpStill_step (fun K hK => ?_); go_simp; first | (refine hK _ ?_; clear hK K) | (refine ⟨_, (right_any _ _ _ (by decide)).mono (fun _ _ h => ⟨h.1, h.2.symm⟩), hK _ ?_⟩; clear hK K))
            refine wpStill_nil ?_
            change wpList _ _ _ _ _ (wr.drewN nq).drew
            rw [← HW1.out]
            go_wp2_with fail
            have HW3 : Hid ((W1.setCell ⟨w.heap.size, m0, none⟩ (.int .u32 (u wx))).heap[w.heap.size]? = some (.cells (wcells (fun j => W wait (circ (max (t + 1) 16) j))) 65 (0, 0))) := HW2.out W1 (by rw [HW1.out]; rfl)
            have hne : (⟨w.heap.size, m0, none⟩ : Addr) ≠ ⟨0, t, none⟩ := by
              intro e; injection e with e1; have := HG.out; omega
            have q0 : (W1.setCell ⟨w.heap.size, m0, none⟩ (.int .u32 (u wx))).cell? ⟨0, t, none⟩ = some (.int .u32 (u kx)) := by
              rw [World.cell?_setCell_other _ _ _ _ hne, HW1.out]; exact k0
            have q1 : (W1.setCell ⟨w.heap.size, m0, none⟩ (.int .u32 (u wx))).cell? ⟨w.heap.size, m0, none⟩ = some (.int .u32 (u wx)) := World.cell?_setCell_same _ _ _ y0
            have HB2 : Hid (Below w.heap.size w (W1.setCell ⟨w.heap.size, m0, none⟩ (.int .u32 (u wx)))) := by
              rw [HW1.out]; exact ((below_drewN HB.out _).drew).setCell (Nat.le_refl _) _
            clear y0 y9 yf hne hE e3 e10 k0 HW1
            generalize W1.setCell ⟨w.heap.size, m0, none⟩ (.int .u32 (u wx)) = W2 at *
            go_quiet ((go_at_call 40; exact quiet_eq (right_any _ _ _ (by decide))))
            go_wp2_with (go_at_call 40; refine (right_any _ _ _ (by decide)).mono ?_; rintro e w' ⟨rfl, rfl⟩)
            go_roundw
            case rel =>
              have E : ∀ {x y : UInt32}, x = y → Value.int .u32 (u x) = Value.int .u32 (u y) := fun h => by rw [h]
              refine ⟨t + 1, by omega, E ?_, E ?_, E ?_, E ?_, E ?_, E ?_, E ?_, E ?_, by go_num, HW3.out, below_drewN HB2.out _⟩
              · rw [HN.out, rnd_one va vb vc vd, rnd_two va vb vc vd ve vf vg vh]; rfl
              · rw [HN.out]; rfl
              · rw [HN.out]; rfl
              · rw [HN.out]; rfl
              · rw [HN.out, rnd_one va vb vc vd]; rfl
              · rw [HN.out]; rfl
              · rw [HN.out]; rfl
              · rw [HN.out]; rfl
            case measure => simp [intOf]; omega
        · obtain rfl : t = 64 := by omega
          have e64 : ((64 : Nat) : Int) = 64 := rfl
          rw [e64]
          clear e64
          have HWB2 := Lib.hid hB
          clear hW hB
          obtain ⟨r, hr⟩ : ∃ r : St, rounds s wait 64 = r := ⟨_, rfl⟩
          have HRR := Lib.hid (HR.out.symm.trans hr)
          have HR2 := Lib.hid hr
          clear hr
          have HST : Hid (∀ j, j < 8 → ∀ W0 : World, W0.heap[b]? = some (.cells (hcells (mixl s r j) wait n) 62 (0, 0)) →
              W0.cell? ⟨b, j, none⟩ = some (.int .u32 (u (s.list.getD j 0))) ∧ W0.frozen? ⟨b, j, none⟩ = false ∧
              (W0.setCell ⟨b, j, none⟩ (.int .u32 (u (s.list.getD j 0 + r.list.getD j 0)))).heap[b]? = some (.cells (hcells (mixl s r (j + 1)) wait n) 62 (0, 0))) := by
            intro j hj W0 h0
            have h8 : (mixl s r j).length = 8 := mixl_length s r j
            refine ⟨?_, frozen_of_row _ _ j _ _ h0, ?_⟩
            · rw [cell_of_row _ _ j _ _ _ h0, hcells_state j (by omega), mixl_at s r j hj]
            · rw [heap_setCell_same _ _ j _ _ _ h0, hcells_set _ _ _ j (by omega), mixl_set s r j hj]
          have HIX := Lib.hid fun (j : Nat) (hj : j < 8) (W0 : World) => idx8 r j hj W0
          rw [← HRR.out] at HIX
          simp only at HIX
          rw [HRR.out] at HIX
          go_wp2_with fail
          go_loopw [200] (fun i wr => ∃ j : Nat, j ≤ 8 ∧ i = .int .i64 j ∧ wr.heap[b]? = some (.cells (hcells (mixl s r j) wait n) 62 (0, 0)) ∧ w.grownBy wr (some b)) (fun i _ => 8 - (intOf i).toNat)
          case atStart => exact ⟨0, by omega, rfl, by rw [mixl_zero, HWB2.out.block b H.out.lt]; exact H.out.block, ⟨HWB2.out.os, HWB2.out.tape, HWB2.out.output, HWB2.out.size, fun k hk _ => HWB2.out.block k hk⟩⟩
          case round =>
            obtain ⟨j, hj, rfl, hX, hG⟩ := hrel
            by_cases hj8 : j < 8
            · have hix := fun W0 => HIX.out j hj8 W0
              obtain ⟨x0, x1, x2⟩ := HST.out j hj8 _ hX
              have j8 : (j : Int) < 8 := by omega
              have HX2 := Lib.hid x2
              have HG := Lib.hid hG
              clear hX hG x2
              generalize s.list.getD j 0 = sx at *
              generalize r.list.getD j 0 = rx at *
              have HGG := Lib.hid (show w.grownBy ((wr.setCell ⟨b, j, none⟩ (.int .u32 (u (sx + rx)))).drew) (some b) from
                ⟨HG.out.os, HG.out.tape, HG.out.output, by have := HG.out.size; simpa using this, fun k hk hne => by
                  have h1 := HG.out.block k hk hne
                  have h2 := heap_setCell_other wr ⟨b, j, none⟩ k (.int .u32 (u (sx + rx))) (fun e => hne (by rw [e]))
                  exact h2.trans h1⟩)
              go_wp2_with fail
              refine wp_region_still_tail 11 (by kernel_rfl) (by kernel_rfl) ?_
              simp only [List.take_succ_cons, List.take_zero, List.drop_succ_cons, List.drop_zero]
              obtain ⟨W1, hW1⟩ : ∃ W : World, W = wr.drew := ⟨_, rfl⟩
              change wpStill _ _ wr.drew _ _ _
              rw [← hW1]
              have y0 : W1.cell? ⟨b, j, none⟩ = some (.int .u32 (u sx)) := by rw [hW1]; exact x0
              have y1 : W1.frozen? ⟨b, j, none⟩ = false := by rw [hW1]; exact x1
              have HW1 := Lib.hid hW1
              clear hW1 x0 x1
              repeat (refine wpStill_step (fun K hK => ?_); go_simp; refine hK _ ?_; clear hK K)
              refine wpStill_nil ?_
              change wpList _ _ _ _ _ wr.drew
              rw [← HW1.out]
              go_wp2_with fail
              rw [HW1.out]
              go_wp2_with fail
              go_roundw
              case rel => exact ⟨j + 1, by omega, by go_num, HX2.out, HGG.out⟩
              case measure => simp [intOf]; omega
            · obtain rfl : j = 8 := by omega
              have HX := Lib.hid hX
              have HG := Lib.hid hG
              clear hX hG
              go_wp2
              go_end0
              rw [mixl_end] at HX
              exact ⟨rfl, ⟨by rw [← HR2.out] at HX; exact HX.out, rfl, H.out.wait64⟩, HG.out⟩
end Go.Proofs.YtjjdjdhkfmfchaaDoor

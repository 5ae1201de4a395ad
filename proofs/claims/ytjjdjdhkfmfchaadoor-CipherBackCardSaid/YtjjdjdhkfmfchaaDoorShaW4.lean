/- The walk of (*sha.Hash).Write. -/
import Derived.Test.YtjjdjdhkfmfchaaDoorShaW3
import Derived.Test.YtjjdjdhkfmfchaaDoorShaPlain2
import Derived.Lib.BufferWrite
import Derived.Lib.SlBuf
import Derived.StillTailTactics
import Derived.WalkSmall
namespace Go.Proofs.YtjjdjdhkfmfchaaDoor
set_option linter.unusedVariables false
set_option linter.unusedSimpArgs false
open Go.RowKit Sha
attribute [local go_sem] ByteArray.extract_mk

/-- block b holds the sum under way of the text m. -/
def Holds (w : World) (b : Nat) (m : List UInt8) : Prop := ∃ wait, HashAt w b (stA m (m.length / 64)).list wait m.length ∧ wait.take (m.length % 64) = m.drop (64 * (m.length / 64))

theorem Holds.lt {w : World} {b : Nat} {m : List UInt8} (h : Holds w b m) : b < w.heap.size := by obtain ⟨_, h, _⟩ := h; exact h.lt
theorem Holds.kept {w w' : World} {b : Nat} {m : List UInt8} (h : Holds w b m) (he : w'.heap[b]? = w.heap[b]?) : Holds w' b m := by
  obtain ⟨wait, h1, h2⟩ := h
  exact ⟨wait, h1.kept he, h2⟩
theorem KLaid.kept {w w' : World} (h : KLaid w) (he : w'.heap[0]? = w.heap[0]?) : KLaid w' := fun i hi => by
  rw [World.cell?_of_block (w := w) he]; exact h i hi
theorem KLaid.lt {w : World} (h : KLaid w) : 0 < w.heap.size := World.block_lt_of_cell? w _ (h 0 (by omega))
theorem KLaid.grown {w w' : World} {b : Nat} (h : KLaid w) (hb : b ≠ 0) (hg : w.grownBy w' (some b)) : KLaid w' := h.kept (hg.block _ h.lt (fun e => hb (by injection e with e; exact e.symm)))
theorem KLaid.below {w w' : World} (h : KLaid w) (hg : Below w.heap.size w w') : KLaid w' := h.kept (hg.block _ h.lt)

/-- bytes as cells. -/
def bcells (l : List UInt8) : List Value := l.map fun c => Value.int .u8 (by8 c)
theorem bcells_length (l : List UInt8) : (bcells l).length = l.length := by simp [bcells]
theorem bcells_one (l : List UInt8) : ∀ v ∈ bcells l, v.oneCell' = true := by
  intro v hv
  simp only [bcells, List.mem_map] at hv
  obtain ⟨b, _, rfl⟩ := hv
  rfl

/-- copy(dst, s): as many bytes as there is room for. -/
theorem run_copy_str {P : Program} (w : World) (dT sT ty elem : TypeId) (g o dLen dCap k : Nat) (l : List UInt8) (cur : Array Value) (t : TypeId)
    (hu : P.underlying dT = some (.slice elem)) (hs : (P.info? elem).map (·.size) = some 1) (hg : w.heap[g]? = some (.cells cur t (0, 0))) (hk : k = Nat.min l.length dLen) (hfit : o + k ≤ cur.size) :
    (Builtin.copy_ #[dT, sT] ty #[.slice (some ⟨g, o, none⟩) dLen dCap, .string ⟨l.toArray⟩]).run P w =
      .ok (.int .i64 k) (w.setRow g (cur.toList.take o ++ bcells (l.take k) ++ cur.toList.drop (o + k)).toArray) := by
  have hkl : k ≤ l.length := by rw [hk]; exact Nat.min_le_left _ _
  have hlen : (bcells (l.take k)).length = k := by rw [bcells_length, List.length_take]; omega
  have hst := run_storeCells_at P g o t (bcells (l.take k)) 0 cur w hg (by rw [hlen]; simpa using hfit) (bcells_one _)
  have htk : List.take k (List.map (fun b : UInt8 => Value.int IntKind.u8 (b.toNat : Int)) l) = bcells (l.take k) := by
    rw [← List.map_take]; rfl
  rw [hlen] at hst
  simp only [Nat.add_zero] at hst
  have hmin : Nat.min l.length dLen = k := hk.symm
  cases hq : P.info? elem with
  | none => simp [hq] at hs
  | some i =>
    simp [Builtin.copy_, run_underlying hu, Builtin.lenOf, Builtin.firstCells, sizeOf, typeInfo, hq, hmin, ByteArray.size]
    rw [htk, hst]
    simp [Result.andThen, goInt]

theorem hcells_splice (st : List UInt32) (wait x : List UInt8) (n a : Nat) (h8 : st.length = 8) (ha : a + x.length ≤ wait.length) :
    ((hcells st wait n).toList.take (8 + a) ++ bcells x ++ (hcells st wait n).toList.drop (8 + a + x.length)).toArray = hcells st (wait.take a ++ x ++ wait.drop (a + x.length)) n := by
  have e1 : (st.map fun x => Value.int .u32 (u x)).length = 8 := by simpa using h8
  have h : ∀ (A B : List Value) (a k : Nat) (x : List Value), A.length = 8 → x.length = k → a + k ≤ B.length →
      (A ++ (B ++ [Value.int .i64 n])).take (8 + a) ++ x ++ (A ++ (B ++ [Value.int .i64 n])).drop (8 + a + k) = A ++ ((B.take a ++ x ++ B.drop (a + k)) ++ [Value.int .i64 n]) := by
    intro A B a k x hA hx hB
    rw [← hA, List.take_length_add_append, show A.length + a + k = A.length + (a + k) by omega, List.drop_length_add_append, List.take_append_of_le_length (by omega), List.drop_append_of_le_length hB]
    simp only [List.append_assoc]
  have := h (st.map fun x => Value.int .u32 (u x)) (wait.map fun c => Value.int .u8 (by8 c)) a x.length (bcells x) e1 (bcells_length x) (by simpa using ha)
  unfold hcells
  simp only
  rw [this]
  simp only [List.map_append, List.map_take, List.map_drop, bcells]
theorem hcells_setn (st : List UInt32) (wait : List UInt8) (n m : Nat) (h8 : st.length = 8) (h64 : wait.length = 64) : (hcells st wait n).setIfInBounds 72 (.int .i64 m) = hcells st wait m := by
  unfold hcells
  simp only [List.setIfInBounds_toArray]
  rw [List.set_append_right _ _ (by simp; omega), List.set_append_right _ _ (by simp; omega)]
  simp [h8, h64]
theorem grown_trans {w w1 w2 : World} {r : Option Nat} (h : w.grownBy w1 r) (k : w1.grownBy w2 r) : w.grownBy w2 r :=
  ⟨k.os.trans h.os, k.tape.trans h.tape, k.output.trans h.output, Nat.le_trans h.size k.size, fun i hi hne => (k.block i (Nat.lt_of_lt_of_le hi h.size) hne).trans (h.block i hi hne)⟩
theorem grown_refl (w : World) (r : Option Nat) : w.grownBy w r := ⟨rfl, rfl, rfl, Nat.le_refl _, fun _ _ _ => rfl⟩
theorem grown_drewN {w w1 : World} {r : Option Nat} (h : w.grownBy w1 r) (n : Nat) : w.grownBy (w1.drewN n) r := ⟨h.os, h.tape, h.output, h.size, h.block⟩
theorem grown_setRow (w : World) (b : Nat) (cs : Array Value) : w.grownBy (w.setRow b cs) (some b) :=
  ⟨rfl, rfl, rfl, by simp [World.setRow], fun k _ hne => setRow_other w b k cs (fun e => hne (by rw [e]))⟩
theorem grown_setCell (w : World) (b i : Nat) (v : Value) : w.grownBy (w.setCell ⟨b, i, none⟩ v) (some b) :=
  ⟨rfl, rfl, rfl, by simp [World.setCell], fun k _ hne => heap_setCell_other w ⟨b, i, none⟩ k v (fun e => hne (by rw [e]))⟩

theorem run_sliceArr_from {P : Program} (W : World) {t e : TypeId} {n : Nat} {i : TypeInfo} (ht : P.underlying t = some (.array n e)) (hi : P.info? e = some i) (hsz : i.size = 1) (b off c : Nat) (hc : c < n) :
    (Instr.sliceAt t (.pointer (some ⟨b, off, none⟩)) (some (.int .i64 (c : Int))) none none).run P W = .ok (.slice (some ⟨b, off + c, none⟩) (n - c) (n - c)) W := by
  simp [Instr.sliceAt, Instr.sureAddr, run_underlying ht, Instr.sliceBounds, run_sliceBound, sizeOf, typeInfo, hi, hsz, Addr.add, (by omega : c ≤ n)]
  rw [if_neg (by omega)]
  split
  · subst c; rfl
  · rfl

/-- how long a text in a slot is. -/
def strLen : Value → Nat
  | .string s => s.size
  | _ => 0

/-- copy into the bytes that wait. -/
theorem wpList_copy_hash {w : World} {ops : Array Oper} {rest : List Oper} {o : Oper} {ac : Act} {Q : Exit → Act → World → Prop} (hgd : o.guard = none) (d s : Operand)
    (ho : o.op = .call { callee := .builtin .copy, args := #[d, s], argTypes := #[31, 9] }) (b a : Nat) (st : List UInt32) (wait : List UInt8) (n k : Nat) (l : List UInt8) (h : HashAt w b st wait n)
    (hd : ac.eval d = .slice (some ⟨b, 8 + a, none⟩) (64 - a) (64 - a)) (hs : ac.eval s = .string ⟨l.toArray⟩) (ha : a < 64) (hk : k = Nat.min l.length (64 - a))
    (hh : ∀ w', HashAt w' b st (wait.take a ++ l.take k ++ wait.drop (a + k)) n → w.grownBy w' (some b) → wpList Tryd.prog ops Q rest (ac.put o.dst (.int .i64 k)) w') : wpList Tryd.prog ops Q (o :: rest) ac w := by
  have hkl : k ≤ l.length := by rw [hk]; exact Nat.min_le_left _ _
  have hka : k ≤ 64 - a := by rw [hk]; exact Nat.min_le_right _ _
  have hlt : (l.take k).length = k := by rw [List.length_take]; omega
  obtain ⟨i0, hi, _, hz1, _⟩ := info_parts info_u8
  have hs1 : (Tryd.prog.info? 5).map (·.size) = some 1 := by rw [hi]; simp [hz1]
  have hr := run_copy_str (P := Tryd.prog) w 31 9 o.type 5 b (8 + a) (64 - a) (64 - a) k l _ _ Tryd.underlying31 hs1 h.block hk (by rw [hcells_size h.st8 h.wait64]; omega)
  have hsp := hcells_splice st wait (l.take k) n a h.st8 (by rw [hlt, h.wait64]; omega)
  rw [hlt] at hsp
  rw [hsp] at hr
  refine Lib.wpList_copy_run w hgd d s _ _ ho _ _ hd hs hr (hh _ ⟨setRow_heap w b _ _ _ _ h.block, h.st8, ?_⟩ (grown_setRow w b _))
  simp only [List.length_append, List.length_take, List.length_drop, h.wait64]
  omega

set_option maxRecDepth 20000 in
set_option maxHeartbeats 2000000 in
theorem write_some (b : Nat) (m s : List UInt8) (w : World) (h : Holds w b m) (hk : KLaid w) (hb0 : b ≠ 0) (hl : m.length + s.length < 1152921504606846976) :
    Calls Tryd.prog 31 #[.pointer (some ⟨b, 0, none⟩), .string ⟨s.toArray⟩] w fun e w' => e = .returned (.tuple #[]) ∧ Holds w' b (m ++ s) ∧ w.grownBy w' (some b) := by
  have H := Lib.hid h
  have HK := Lib.hid hk
  clear h hk
  go_enter Tryd.func31, Tryd.ntmps31
  go_wp2
  go_loopw [1] (fun x wr => ∃ p rest : List UInt8, Hid (s = p ++ rest) ∧ x = .string ⟨rest.toArray⟩ ∧ Hid (Holds wr b (m ++ p)) ∧ w.grownBy wr (some b)) (fun x _ => strLen x)
  case atStart => exact ⟨[], s, rfl, rfl, by rw [List.append_nil]; exact H.out, grown_refl _ _⟩
  case round =>
    obtain ⟨p, rest, HS, rfl, HM, hG⟩ := hrel
    have HG := Lib.hid hG
    clear hG
    by_cases hr : rest = []
    · subst hr
      have hf : Hid (Holds wr b (m ++ s)) := by rw [HS.out, List.append_nil]; exact HM
      go_wp2
      go_end0
      exact ⟨rfl, hf.out, HG.out⟩
    · have hne : (rest == ([] : List UInt8)) = false := by rw [beq_eq_false_iff_ne]; exact hr
      have hne2 : (rest != ([] : List UInt8)) = true := by rw [bne_iff_ne]; exact hr
      obtain ⟨wait, HA, hwt⟩ := HM.out
      have hlen : (m ++ p).length + rest.length < 1152921504606846976 := by
        have := congrArg List.length HS.out
        rw [List.length_append] at this ⊢
        omega
      obtain ⟨n, hn⟩ : ∃ n, (m ++ p).length = n := ⟨_, rfl⟩
      rw [hn] at HA hwt hlen
      obtain ⟨a, ha⟩ : ∃ a, n % 64 = a := ⟨_, rfl⟩
      rw [ha] at hwt
      have ha64 : a < 64 := by omega
      obtain ⟨k, hk⟩ : ∃ k, k = Nat.min rest.length (64 - a) := ⟨_, rfl⟩
      have hkl : k ≤ rest.length := by rw [hk]; exact Nat.min_le_left _ _
      have hk1 : 1 ≤ k := by
        have : 0 < rest.length := List.length_pos_iff.2 hr
        rw [hk]; exact Nat.le_min.2 ⟨by omega, by omega⟩
      obtain ⟨n', hn'⟩ : ∃ n', n' = n + k := ⟨_, rfl⟩
      have e1 : (n : Int) % 64 = (a : Int) := by omega
      have e2 : ((n : Int)).tmod 64 = (a : Int) := by rw [Int.tmod_eq_emod_of_nonneg (by omega)]; omega
      have e3 : IntKind.i64.wrap ((n : Int) + (k : Int)) = (n' : Int) := by rw [IntWalk.i64_in _ (by omega)]; omega
      have c72 := HA.count
      have HHA := Lib.hid HA
      obtain ⟨i0, hi, _, hz1, _⟩ := info_parts info_u8
      have hsl := fun W => run_sliceArr_from (P := Tryd.prog) W Tryd.underlying60 hi hz1 b 8 a (by omega)
      have HKK := Lib.hid hk
      have HN := Lib.hid hn
      have HW := Lib.hid hwt
      have HA' := Lib.hid ha
      have HN' := Lib.hid hn'
      have hrl : rest.length < 1152921504606846976 := by omega
      clear hi hz1 hk hn hwt ha hr HA
      go_wp2_with (refine wpList_copy_hash (o := ⟨some 21, _, _, _, _, _⟩) rfl (.tmp 19) (.tmp 20) rfl b a _ _ n k rest HHA.out rfl rfl ha64 HKK.out ?_; intro W1 hA1 hG1)
      have hwm := wait_more (m := m ++ p) (x := rest.take k) (q := n / 64) (a := a) (wait := wait) (by have := HN.out; have := HA'.out; omega) HW.out (by have := HHA.out.wait64; omega)
      rw [show (rest.take k).length = k by rw [List.length_take]; omega] at hwm
      generalize wait.take a ++ rest.take k ++ wait.drop (a + k) = wt2 at *
      have HWM := Lib.hid hwm
      have hset : (W1.setCell ⟨b, 72, none⟩ (.int .i64 n')).heap[b]? = some (.cells (hcells (stA (m ++ p) (n / 64)).list wt2 n') 62 (0, 0)) := by
        rw [heap_setCell_same _ _ 72 _ _ _ hA1.block, hcells_setn _ _ _ _ hA1.st8 hA1.wait64]
      have HS2 := Lib.hid hset
      have HG2 : Hid (w.grownBy (W1.drew.setCell ⟨b, 72, none⟩ (.int .i64 n')) (some b)) := grown_trans (grown_trans HG.out (grown_trans hG1 (grown_drewN (grown_refl _ _) 1))) (grown_setCell _ _ _ _)
      have x72 := hA1.count
      have xf := hA1.free 72
      have h8 := hA1.st8
      have h64 := hA1.wait64
      have H8 := Lib.hid h8
      have H64 := Lib.hid h64
      have hdr : List.take (rest.length - k) (List.drop k rest) = rest.drop k := List.take_of_length_le (by rw [List.length_drop]; omega)
      have kl2 : (k : Int) ≤ rest.length := by omega
      have HSS : Hid (s = (p ++ rest.take k) ++ rest.drop k) := by
        show _ = _
        rw [HS.out, List.append_assoc, List.take_append_drop]
      clear hwm hset hA1 hG1 h8 h64 hn'
      refine wp_region_still_tail 13 (by kernel_rfl) (by kernel_rfl) ?_
      simp only [List.take_succ_cons, List.take_zero, List.drop_succ_cons, List.drop_zero]
      obtain ⟨W2, hW2⟩ : ∃ W : World, W = W1.drew := ⟨_, rfl⟩
      change wpStill _ _ W1.drew _ _ _
      rw [← hW2]
      have y72 : W2.cell? ⟨b, 72, none⟩ = some (.int .i64 n) := by rw [hW2]; exact x72
      have yf : W2.frozen? ⟨b, 72, none⟩ = false := by rw [hW2]; exact xf
      have HW2 := Lib.hid hW2
      clear hW2 x72 xf
      repeat (refine wpStill_step (fun K hK => ?_); go_simp; refine hK _ ?_; clear hK K)
      refine wpStill_nil ?_
      change wpList _ _ _ _ _ W1.drew
      rw [← HW2.out]
      have HA3 : Hid (HashAt (W2.setCell ⟨b, 72, none⟩ (.int .i64 n')) b (stA (m ++ p) (n / 64)).list wt2 n') := by rw [HW2.out]; exact ⟨HS2.out, H8.out, H64.out⟩
      have HG3 : Hid (w.grownBy (W2.setCell ⟨b, 72, none⟩ (.int .i64 n')) (some b)) := by rw [HW2.out]; exact HG2.out
      clear HW2 HS2 HG2 c72 hsl
      obtain ⟨a', ha'⟩ : ∃ a', n' % 64 = a' := ⟨_, rfl⟩
      have e4 : (n' : Int) % 64 = (a' : Int) := by omega
      have hmk : (m ++ (p ++ rest.take k)).length = n' := by
        have h1 := HN.out
        have h2 := HN'.out
        rw [List.length_append] at h1
        rw [List.length_append, List.length_append, List.length_take]
        omega
      have hst : stA (m ++ (p ++ rest.take k)) (n / 64) = stA (m ++ p) (n / 64) := by
        rw [← List.append_assoc]
        exact stA_append _ _ _ (by rw [HN.out]; omega)
      have hka : k ≤ 64 - a := by rw [HKK.out]; exact Nat.min_le_right _ _
      by_cases hz : a' = 0
      · have hq : n' / 64 = n / 64 + 1 ∧ a + k = 64 := by have := HA'.out; have := HN'.out; omega
        have HT := Lib.hid fun W3 h1 h2 => take_any b (stA (m ++ p) (n / 64)) wt2 n' W3 h1 h2 hb0
        have HM2 : Hid (∀ W3 : World, HashAt W3 b (comp (stA (m ++ p) (n / 64)) wt2).list wt2 n' → Holds W3 b (m ++ (p ++ rest.take k))) := by
          intro W3 h3
          refine ⟨wt2, ?_, ?_⟩
          · rw [hmk, hq.1]
            have e : stA (m ++ (p ++ rest.take k)) (n / 64 + 1) = comp (stA (m ++ p) (n / 64)) wt2 := by
              simp only [stA]
              rw [hst]
              congr 1
              have h5 := HWM.out
              rw [hq.2, List.take_of_length_le (by have := H64.out; omega)] at h5
              unfold blk
              rw [h5, List.append_assoc, List.take_of_length_le (by have h6 := congrArg List.length h5; rw [List.append_assoc] at h6; have := H64.out; omega)]
            rw [e]
            exact h3
          · rw [hmk, ha', hz, hq.1, List.take_zero]
            exact (List.drop_eq_nil_of_le (by rw [hmk]; omega)).symm
        have e5 : ((a' : Int) == 0) = true := by rw [hz]; rfl
        clear hst hmk hq hka
        subst hz
        go_wp2_with (go_at_call 37; refine (HT.out _ HA3.out (HK.out.grown hb0 HG3.out)).mono ?_; rintro e W4 ⟨rfl, h4, g4⟩)
        go_roundw
        case rel => exact ⟨p ++ rest.take k, rest.drop k, HSS, rfl, HM2.out _ h4, grown_trans HG3.out g4⟩
        case measure => simp [strLen, ByteArray.size]; omega
      · have hq : n' / 64 = n / 64 ∧ a' = a + k := by have := HA'.out; have := HN'.out; omega
        have HM2 : Hid (∀ W3 : World, HashAt W3 b (stA (m ++ p) (n / 64)).list wt2 n' → Holds W3 b (m ++ (p ++ rest.take k))) := by
          intro W3 h3
          refine ⟨wt2, ?_, ?_⟩
          · rw [hmk, hq.1, hst]; exact h3
          · rw [hmk, ha', hq.2, hq.1, HWM.out, List.append_assoc]
        have e5 : ((a' : Int) == 0) = false := by rw [beq_eq_false_iff_ne]; omega
        clear hst hmk hq hka
        go_wp2
        go_roundw
        case rel => exact ⟨p ++ rest.take k, rest.drop k, HSS, rfl, HM2.out _ HA3.out, HG3.out⟩
        case measure => simp [strLen, ByteArray.size]; omega

/-- Write to no hash does nothing. -/
theorem write_none (s : List UInt8) (w : World) :
    Calls Tryd.prog 31 #[.pointer none, .string ⟨s.toArray⟩] w fun e w' => e = .returned (.tuple #[]) ∧ w = w' := by
  go_enter Tryd.func31, Tryd.ntmps31
  go_wp2
  exact bodyPost_ret (v := .tuple #[]) (results_none Tryd.results31 _ _ _) rfl ⟨rfl, rfl⟩
end Go.Proofs.YtjjdjdhkfmfchaaDoor

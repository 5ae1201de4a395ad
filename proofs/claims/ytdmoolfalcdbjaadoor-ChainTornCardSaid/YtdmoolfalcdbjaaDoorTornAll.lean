/- Plain laws of scanning and of frames that are cut; rows of numbers; the walk of the reference's Ends. (ScanBack, OwnI, EndsW, TornPlain in one text: a claim bears at most 60 files.) -/
import Derived.Test.YtdmoolfalcdbjaaDoorScanPlain
import Derived.Test.YtdmoolfalcdbjaaDoorStrs
import Derived.Test.YtdmoolfalcdbjaaDoorMemLaws
import Derived.Test.YtdmoolfalcdbjaaDoorOwnS
import Derived.Maps.AppendAt
import Derived.Test.YtdmoolfalcdbjaaDoorChainW4
import Derived.Test.YtdmoolfalcdbjaaDoorChainScansLaw
namespace Go.Proofs.YtdmoolfalcdbjaaDoor.Chain
set_option linter.unusedVariables false
set_option linter.unusedSimpArgs false
open Sha Oct

theorem read_text_more {l : List UInt8} {m m' : Int} {t : List UInt8} {n : Nat} (h : readText l m = (t, n, 0)) (hm : (t.length : Int) ≤ m') : readText l m' = (t, n, 0) := by
  rcases hr : readNum l with ⟨v, k, x⟩
  unfold readText at h ⊢
  rw [hr] at h ⊢
  simp only at h ⊢
  split at h
  · rename_i hx; simp only [Prod.mk.injEq] at h; exact absurd h.2.2 hx
  · rename_i hx
    split at h
    · simp at h
    · split at h
      · simp at h
      · rename_i h1 h2
        obtain rfl : x = 0 := by omega
        obtain ⟨_, hk, _, _⟩ := readNum_bounds hr
        have ht := h
        simp only [Prod.mk.injEq] at ht
        have hl : t.length = v := by rw [← ht.1, List.length_take, List.length_drop]; omega
        rw [if_neg hx, if_neg (by omega), if_neg h2]
        exact h
theorem read_text_back' {t : List UInt8} (ht : t.length < 256 ^ 8) {m : Int} (hm : (t.length : Int) ≤ m) (s : List UInt8) : readText (text t ++ s) m = (t, (text t).length, 0) :=
  read_text_more (read_text_back ht s) hm
theorem small8 {r : List UInt8} (h : r.length ≤ 8192) : r.length < 256 ^ 8 := by rw [p8]; omega

/-- frame by frame, what was read is what the bytes begin with. -/
theorem recs_front (s : List UInt8) : ∀ k, k ≤ many s → framesL zlink (recs s k) = s.take (stt s k).2 ∧ headL zlink (recs s k) = (stt s k).1 ∧ (recs s k).all fits = true
  | 0, _ => ⟨by simp [recs, framesL, stt], rfl, rfl⟩
  | k + 1, h => by
    obtain ⟨h1, h2, h3⟩ := recs_front s k (by omega)
    obtain ⟨r, n, hg, hr, hst⟩ := stt_good (many_good s k (by omega))
    obtain ⟨g1, g2, g3⟩ := good_some hg
    obtain ⟨t1, t2, t3, t4⟩ := readText_ok g1
    refine ⟨?_, ?_, ?_⟩
    · rw [recs, framesL_append, h1, h2, hr, hst]
      simp only [framesL, List.append_nil, frameL]
      rw [t4, ← g3, Nat.add_assoc, List.take_add, List.take_add, List.drop_drop]
    · rw [recs, headL_append, h2, hr, hst]
      rfl
    · rw [recs, List.all_append, h3, hr]
      simp [fits]
      omega

theorem scan_frames {s : List UInt8} {a : List (List UInt8)} {b : List UInt8} {c : Nat} (h : scanR s = (a, b, c)) : framesL zlink a = s.take c ∧ headL zlink a = b ∧ chk a = 0 ∧ c ≤ s.length ∧ 33 * a.length ≤ s.length := by
  unfold scanR at h
  simp only [Prod.mk.injEq] at h
  obtain ⟨rfl, rfl, rfl⟩ := h
  obtain ⟨h1, h2, h3⟩ := recs_front s _ (Nat.le_refl _)
  refine ⟨h1, h2, by unfold chk; rw [if_pos h3], at_le s _, ?_⟩
  rw [recs_length]
  exact many_le s

theorem all_take {ls : List (List UInt8)} (h : ls.all fits = true) {k : Nat} (hk : k < ls.length) : (ls[k]).length ≤ 8192 := by
  have := List.all_eq_true.1 h _ (List.getElem_mem hk)
  unfold fits at this
  simpa using this

/-- frames are read, frame by frame, whatever comes behind them. -/
theorem frames_read (ls : List (List UInt8)) (hc : ls.all fits = true) (t : List UInt8) : ∀ k, k ≤ ls.length →
    stt (framesL zlink ls ++ t) k = (headL zlink (ls.take k), (framesL zlink (ls.take k)).length) ∧ recs (framesL zlink ls ++ t) k = ls.take k ∧ ∀ j, j < k → isGood (framesL zlink ls ++ t) j = true
  | 0, _ => ⟨rfl, rfl, fun j hj => by omega⟩
  | k + 1, h => by
    have hk : k < ls.length := h
    obtain ⟨h1, h2, h3⟩ := frames_read ls hc t k (by omega)
    have hr := all_take hc hk
    have hS : framesL zlink ls ++ t = framesL zlink (ls.take k) ++ (text ls[k] ++ (nextL (headL zlink (ls.take k)) ls[k] ++ (framesL (headL zlink (ls.take (k + 1))) (ls.drop (k + 1)) ++ t))) := by
      conv => lhs; rw [← List.take_append_drop (k + 1) ls, framesL_append, framesL_next ls zlink k hk]
      simp only [frameL, List.append_assoc]
    have hg : good (framesL zlink ls ++ t) (headL zlink (ls.take k)) (framesL zlink (ls.take k)).length = some (ls[k], (text ls[k]).length) := by
      rw [hS]
      unfold good
      rw [List.drop_left, read_text_back' (small8 hr) (by omega)]
      simp only
      rw [if_pos]
      refine ⟨trivial, by simp only [List.length_append, nextL_length]; omega, ?_⟩
      rw [← List.drop_drop, List.drop_left, List.drop_left, List.take_append_of_le_length (Nat.le_of_eq (nextL_length _ _).symm), List.take_of_length_le (Nat.le_of_eq (nextL_length _ _))]
    have hst : good (framesL zlink ls ++ t) (stt (framesL zlink ls ++ t) k).1 (stt (framesL zlink ls ++ t) k).2 = some (ls[k], (text ls[k]).length) := by rw [h1]; exact hg
    refine ⟨?_, ?_, ?_⟩
    · simp only [stt, hst]
      rw [h1, headL_next ls zlink k hk, framesL_next ls zlink k hk, List.length_append, frameL_length]
      simp only [Nat.add_assoc]
    · rw [recs, h2]
      unfold recAt
      rw [hst, List.take_succ_eq_append_getElem hk]
    · intro j hj
      by_cases hjk : j = k
      · subst hjk
        unfold isGood
        rw [hst]
        rfl
      · exact h3 j (by omega)

/-- frames, and behind them none: the frames' records are scanned. -/
theorem scan_tail (ls : List (List UInt8)) (hc : ls.all fits = true) (t : List UInt8) (hb : good (framesL zlink ls ++ t) (headL zlink ls) (framesL zlink ls).length = none) :
    scanR (framesL zlink ls ++ t) = (ls, headL zlink ls, (framesL zlink ls).length) := by
  obtain ⟨h1, h2, h3⟩ := frames_read ls hc t ls.length (Nat.le_refl _)
  rw [List.take_length] at h1 h2
  have hend : isGood (framesL zlink ls ++ t) ls.length = false := by unfold isGood; rw [h1]; simp only; rw [hb]; rfl
  have hm : many (framesL zlink ls ++ t) = ls.length := by
    have e1 := many_end (framesL zlink ls ++ t)
    have e2 := many_good (framesL zlink ls ++ t)
    rcases Nat.lt_trichotomy (many (framesL zlink ls ++ t)) ls.length with h | h | h
    · rw [h3 _ h] at e1; cases e1
    · exact h
    · rw [e2 _ h] at hend; cases hend
  unfold scanR
  rw [hm, h1, h2]

theorem good_end (A lk : List UInt8) : good (A ++ []) lk A.length = none := by
  unfold good
  rw [List.drop_left]
  rw [if_neg]
  rintro ⟨h, _⟩
  exact absurd h (by decide)
theorem scan_whole (ls : List (List UInt8)) (hc : ls.all fits = true) : scanR (framesL zlink ls) = (ls, headL zlink ls, (framesL zlink ls).length) := by
  have := scan_tail ls hc [] (good_end _ _)
  rwa [List.append_nil] at this
theorem scan_again {s : List UInt8} {a : List (List UInt8)} {b : List UInt8} {c : Nat} (h : scanR s = (a, b, c)) : scanR (s.take c) = (a, b, c) := by
  obtain ⟨h1, h2, h3, h4, _⟩ := scan_frames h
  have hc : a.all fits = true := by
    unfold chk at h3
    split at h3
    · assumption
    · cases h3
  have := scan_whole a hc
  rw [h1, h2] at this
  rw [this, List.length_take, Nat.min_eq_left h4]

/-- a frame that is cut is none. -/
theorem good_torn (A lk r : List UInt8) (hr : r.length ≤ 8192) (j : Nat) (hj : j < (frameL lk r).length) : good (A ++ (frameL lk r).take j) lk A.length = none := by
  cases hg : good (A ++ (frameL lk r).take j) lk A.length with
  | none => rfl
  | some x =>
    exfalso
    obtain ⟨q, n⟩ := x
    obtain ⟨g1, g2, g3⟩ := good_some hg
    rw [List.drop_left] at g1
    obtain ⟨t1, t2, t3, t4⟩ := readText_ok g1
    have hjl : ((frameL lk r).take j).length = j := by rw [List.length_take]; omega
    rw [List.length_append, hjl] at g2
    rw [frameL_length] at hj
    have hn : n < (text r).length := by omega
    have hq : text q = (text r).take n := by
      rw [t4, List.take_take, Nat.min_eq_left (by omega)]
      unfold frameL
      rw [List.take_append_of_le_length (by omega)]
    have e1 := read_text_back' (small8 (r := q) (by omega)) (m := 8192) (by omega) ((text r).drop n)
    rw [hq, List.take_append_drop] at e1
    have e2 := read_text_back' (small8 hr) (m := 8192) (by omega) []
    rw [List.append_nil, e1] at e2
    have := congrArg (fun p => p.2.1) e2
    simp only [List.length_take] at this
    omega

theorem total_small (ls : List (List UInt8)) (h : ls.all fits = true) : total ls ≤ 8192 * ls.length := by
  induction ls with
  | nil => simp [total]
  | cons r rs ih =>
    rw [List.all_cons, Bool.and_eq_true] at h
    have h1 := ih h.2
    have h2 := h.1
    unfold fits at h2
    rw [decide_eq_true_iff] at h2
    simp only [total, List.length_cons]
    omega
end Go.Proofs.YtdmoolfalcdbjaaDoor.Chain

namespace Go.Proofs.YtdmoolfalcdbjaaDoor
set_option linter.unusedVariables false
set_option linter.unusedSimpArgs false
open Go.RowKit Go.ChangeShapes

theorem info_int : (Tryd.prog.info? 3).map (fun i => (i.zero, i.size, i.bytes)) = some (some (.int .i64 0), 1, 8) := by kernel_rfl
/-- The value leads to a row of these numbers. -/
def IsInts (w : World) (v : Value) (ls : List Nat) : Prop :=
  (ls = [] ∧ ∃ a cap, v = .slice a 0 cap ∧ cap ≤ maxLen) ∨
  (∃ b off cap, v = .slice (some ⟨b, off, none⟩) ls.length cap ∧ 0 < ls.length ∧ ls.length ≤ cap ∧ cap ≤ maxLen ∧ b < w.heap.size ∧
    ∀ i (h : i < ls.length), w.cell? ⟨b, off + i, none⟩ = some (.int .i64 (ls[i] : Nat)))
def icells (ls : List Nat) : List Value := ls.map fun n => Value.int .i64 (n : Nat)
/-- the call owns a row of these texts. -/
def OwnI (w : World) (base : Nat) (v : Value) (ls : List Nat) : Prop := w.ownsRow base 3 1 v ls.length (icells ls)

theorem icells_length (ls : List Nat) : (icells ls).length = ls.length := by simp [icells]
theorem icells_append (a b : List Nat) : icells (a ++ b) = icells a ++ icells b := by simp [icells]
theorem OwnI.nil (w : World) (base : Nat) : OwnI w base (.slice none 0 0) [] := World.ownsRow_nil w base _ 1
theorem OwnI.kept {w w' : World} {base : Nat} {v : Value} {ls : List Nat} (h : OwnI w base v ls) (he : ∀ g, v.ownBlock = some g → w'.heap[g]? = w.heap[g]?) : OwnI w' base v ls := by
  refine ⟨h.1, ?_⟩
  rcases h.2 with hn | ⟨g, c, cur, rfl, hb, hg, rest⟩
  · exact .inl hn
  · exact .inr ⟨g, c, cur, rfl, hb, (he g rfl).trans hg, rest⟩
theorem OwnI.lt {w : World} {base : Nat} {v : Value} {ls : List Nat} (h : OwnI w base v ls) : ∀ g, v.ownBlock = some g → base ≤ g ∧ g < w.heap.size := by
  intro k hk
  rcases h.2 with ⟨rfl, _⟩ | ⟨g, c, cur, rfl, hb, hg, _⟩
  · simp [Value.ownBlock] at hk
  · simp [Value.ownBlock] at hk
    subst hk
    exact ⟨hb, (Array.getElem?_eq_some_iff.1 hg).1⟩
theorem OwnI.below {w w' : World} {base : Nat} {v : Value} {ls : List Nat} (h : OwnI w base v ls) (hb : Below w.heap.size w w') : OwnI w' base v ls :=
  h.kept (fun g hg => hb.block g (h.lt g hg).2)
theorem OwnI.form {w : World} {base : Nat} {v : Value} {ls : List Nat} (h : OwnI w base v ls) : ∃ a c, v = .slice a ls.length c := by
  rcases h.2 with ⟨rfl, h0⟩ | ⟨g, c, cur, rfl, _⟩
  · exact ⟨none, 0, by rw [h0]⟩
  · exact ⟨_, _, rfl⟩
theorem OwnI.isInts {w : World} {base : Nat} {v : Value} {ls : List Nat} (h : OwnI w base v ls) : IsInts w v ls := by
  rcases h.2 with ⟨rfl, h0⟩ | ⟨g, c, cur, rfl, hb, hg, hn, hcm, hcs, htake⟩
  · exact .inl ⟨List.eq_nil_of_length_eq_zero h0, none, 0, rfl, Nat.zero_le _⟩
  · rcases Nat.eq_zero_or_pos ls.length with h0 | h0
    · obtain rfl := List.eq_nil_of_length_eq_zero h0
      exact .inl ⟨rfl, _, c, rfl, hcm⟩
    · refine .inr ⟨g, 0, c, rfl, h0, hn, hcm, (Array.getElem?_eq_some_iff.1 hg).1, fun i hi => ?_⟩
      have := World.ownsRow.cells h (g := g) rfl i (.int .i64 (ls[i] : Nat)) (by simp [icells, List.getElem?_eq_getElem hi])
      have hadd' : (⟨g, 0, none⟩ : Addr).add i = ⟨g, 0 + i, none⟩ := by unfold Addr.add; split <;> simp_all
      rw [hadd'] at this
      exact this

theorem run_append_ints {P : Program} (w : World) (t ty : TypeId) (i : TypeInfo) (ht : P.underlying t = some (.slice 3)) (hi : P.info? 3 = some i) (hz : i.zero = some (.int .i64 0)) (hs : i.size = 1) (hby : i.bytes = 8)
    (base : Nat) (hbase : base ≤ w.heap.size) (v : Value) (ls : List Nat) (hv : OwnI w base v ls) (x : Value) (ms : List Nat) (hx : IsInts w x ms) (hl : ls.length + ms.length ≤ 1000000000) :
    ∃ v' w', (Builtin.append_ #[t, t] ty #[v, x]).run P w = .ok v' w' ∧ OwnI w' base v' (ls ++ ms) ∧ w.grownBy w' v.ownBlock := by
  rcases hx with ⟨rfl, a, cap, rfl, hm⟩ | ⟨b, off, cap, rfl, h0, h1, h2, h3, h4⟩
  · rcases hv.2 with ⟨rfl, h0⟩ | ⟨g, c, cur, rfl, hb, hg, hn, rest⟩
    · obtain rfl := List.eq_nil_of_length_eq_zero h0
      exact ⟨_, w, append_nil_nil w t ty _ i ht hi a cap, OwnI.nil w base, rfl, rfl, rfl, Nat.le_refl _, fun _ _ _ => rfl⟩
    · exact ⟨_, w, run_append_none w t ty _ i ht hi _ _ _ hn a cap, by rw [List.append_nil]; exact hv, rfl, rfl, rfl, Nat.le_refl _, fun _ _ _ => rfl⟩
  · have hadd : ∀ i, (⟨b, off, none⟩ : Addr).add i = ⟨b, off + i, none⟩ := fun i => by unfold Addr.add; split <;> simp_all
    obtain ⟨v', w', hr, hown, hg, _⟩ := run_append_own (P := P) w base t ty 3 i (.int .i64 0) 1 8 ht hi hz hs hby rfl (by omega)
      v ls.length (icells ls) hv ⟨b, off, none⟩ ms.length cap (icells ms) (by rw [icells_length]; omega)
      (fun j u hj => by
        by_cases hjl : j < ms.length
        · simp only [icells, List.getElem?_map, List.getElem?_eq_getElem hjl, Option.map_some, Option.some.injEq] at hj
          subst hj
          rw [hadd]; exact h4 j hjl
        · simp [icells, List.getElem?_eq_none (Nat.le_of_not_lt hjl)] at hj)
      (fun u hu => by
        obtain ⟨l, _, rfl⟩ := List.mem_map.1 hu
        rfl)
      (by unfold maxLen; omega) (by omega) hbase
    refine ⟨v', w', hr, ?_, hg⟩
    unfold OwnI
    rw [List.length_append, icells_append]
    exact hown

/-- append(row, texts..). -/
theorem wpList_append_ints {w : World} {ops : Array Oper} {rest : List Oper} {o : Oper} {a : Act} {Q : Exit → Act → World → Prop} (hgd : o.guard = none) (s x : Operand)
    (ho : o.op = .call { callee := .builtin .append, args := #[s, x], argTypes := #[33, 33] }) (base : Nat) (hbase : base ≤ w.heap.size) (v y : Value) (ls ms : List Nat) (hs : a.eval s = v) (hv : OwnI w base v ls)
    (hx : a.eval x = y) (hy : IsInts w y ms) (hl : ls.length + ms.length ≤ 1000000000)
    (h : ∀ v' w', OwnI w' base v' (ls ++ ms) → w.heap.size ≤ w'.heap.size → (∀ B w0, Below B w0 w → B ≤ base → Below B w0 w') → wpList Tryd.prog ops Q rest (a.put o.dst v') w') : wpList Tryd.prog ops Q (o :: rest) a w := by
  obtain ⟨i0, hi, hz0, hz1, hz2⟩ := info_parts info_int
  obtain ⟨v', w', hr, h2, h3⟩ := run_append_ints (P := Tryd.prog) w 33 o.type i0 Tryd.underlying33 hi hz0 hz1 hz2 base hbase v ls hv y ms hy hl
  refine wpList_val hgd (w' := w') ?_ (h v' w' h2 h3.size (fun B w0 hb hB => hb.grown h3 (Nat.le_trans hB hbase) (fun k hk => Nat.le_trans hB (hv.lt k hk).1)))
  unfold execOp
  simp only [ho, resolve, invoke, builtin, Sem.run_bind, Sem.run_pure, Result.andThen_ok, List.map_toArray, List.map_cons, List.map_nil, hs, hx, hr]
end Go.Proofs.YtdmoolfalcdbjaaDoor

namespace Go.Proofs.YtdmoolfalcdbjaaDoor
set_option linter.unusedVariables false
set_option linter.unusedSimpArgs false
open Go.RowKit Sha Chain

/-- where the first k frames end. -/
def endsTo (ls : List (List UInt8)) (k : Nat) : List Nat := (List.range k).map fun i => (framesL zlink (ls.take (i + 1))).length
theorem endsTo_length (ls : List (List UInt8)) (k : Nat) : (endsTo ls k).length = k := by simp [endsTo]
theorem endsTo_get (ls : List (List UInt8)) (k i : Nat) (h : i < (endsTo ls k).length) : (endsTo ls k)[i] = (framesL zlink (ls.take (i + 1))).length := by simp [endsTo]
theorem endsTo_succ (ls : List (List UInt8)) (k : Nat) : endsTo ls (k + 1) = endsTo ls k ++ [(framesL zlink (ls.take (k + 1))).length] := by simp [endsTo, List.range_succ]

set_option maxRecDepth 20000 in
set_option maxHeartbeats 4000000 in
theorem ends_any (v : Value) (ls : List (List UInt8)) (w : World) (hv : IsStrs w v ls) (hb : total ls + 41 * ls.length < 1000000000) (hbig : ∀ r ∈ ls, r.length < 1000000000) :
    Calls Tryd.prog 15 #[v] w fun e w' => ∃ u, e = .returned u ∧ IsInts w' u (endsTo ls ls.length) ∧ Below w.heap.size w w' := by
  obtain ⟨a, cap, rfl, hn, hs⟩ := hv.at
  have HS := Lib.hid hs
  have HBIG := Lib.hid hbig
  unfold maxLen at hn
  clear hv hs hbig
  go_enter Tryd.func15, Tryd.ntmps15
  go_wp2_with fail
  go_loopw [3, 4, 5] (fun x p i wr => ∃ k q : Nat, k ≤ ls.length ∧ i = .int .i64 k ∧ p = .int .i64 q ∧ Hid (q = (framesL zlink (ls.take k)).length) ∧ ∃ u : Value, x = u ∧ Hid (OwnI wr w.heap.size u (endsTo ls k)) ∧ Hid (Below w.heap.size w wr)) (fun _ _ i _ => ls.length - (intOf i).toNat)
  case atStart => exact ⟨0, 0, by omega, rfl, rfl, rfl, _, rfl, OwnI.nil _ _, Lib.hid (Below.refl _ _)⟩
  case round =>
    obtain ⟨k, q, hk, rfl, rfl, HQ, u, rfl, HO, HB⟩ := hrel
    by_cases hlt : k < ls.length
    · obtain ⟨b, off, rfl, hbl, hc⟩ := HS.out k hlt
      have hki : (k : Int) < ls.length := by omega
      have hcw : wr.cell? ⟨b, off + k, none⟩ = some (.string ⟨(ls[k]).toArray⟩) := (HB.out.cell (p := ⟨b, off + k, none⟩) hbl).trans hc
      have hrb := HBIG.out _ (List.getElem_mem hlt)
      have hle := framesL_le (ls.take (k + 1)) zlink
      have htt := total_take ls (k + 1)
      have htl : (ls.take (k + 1)).length = k + 1 := by rw [List.length_take]; omega
      rw [htl] at hle
      have hnx : (framesL zlink (ls.take (k + 1))).length = q + (Oct.text ls[k]).length + 32 := by
        rw [framesL_next ls zlink k hlt, List.length_append, frameL_length, HQ.out]; omega
      obtain ⟨t, ht⟩ : ∃ t, t = (Oct.text ls[k]).length := ⟨_, rfl⟩
      obtain ⟨x, hx⟩ : ∃ x, x = (framesL zlink (ls.take (k + 1))).length := ⟨_, rfl⟩
      have HES := Lib.hid (endsTo_succ ls k)
      rw [← hx, ← ht] at hnx
      rw [← hx] at hle HES
      have HX := Lib.hid hx
      have htz : ((Oct.text ls[k]).length : Int) = t := by rw [ht]
      have hel := endsTo_length ls k
      have e1 : IntKind.i64.wrap ((q : Int) + (t : Int)) = (q : Int) + (t : Int) := by rw [IntWalk.i64_in _ (by omega)]
      have e2 : IntKind.i64.wrap ((q : Int) + (t : Int) + 32) = (x : Int) := by rw [IntWalk.i64_in _ (by omega)]; omega
      have HTX := Lib.hid (rtext_any ls[k] wr hrb)
      clear hc hle htl hbl htt hrb ht hx hnx
      generalize ls[k] = r at *
      have htz2 : (⟨(Oct.text r).toArray⟩ : ByteArray).size = t := by have : (⟨(Oct.text r).toArray⟩ : ByteArray).size = (Oct.text r).length := (by simp [ByteArray.size]); omega
      have htz3 : (Oct.text r).length = t := by omega
      go_wp2_with fail
      refine HTX.out.mono ?_; rintro e w5 ⟨rfl, b5⟩
      have B5 := Lib.hid (below_more HB.out b5 HB.out.size)
      have HO5 := Lib.hid (HO.out.below b5)
      clear b5 hcw
      have hx6 : IsInts (w5.alloc (.cells #[.int .i64 (x : Nat)] 3)) (.slice (some ⟨w5.heap.size, 0, none⟩) 1 1) [x] := by
        refine .inr ⟨w5.heap.size, 0, 1, rfl, by simp, by simp, by unfold maxLen; omega, by simp, fun i hi => ?_⟩
        obtain rfl : i = 0 := by simpa using hi
        rw [cell_of_row _ _ _ _ _ _ (heap_alloc_new w5 _)]
        rfl
      have HX6 := Lib.hid hx6
      have HOA := Lib.hid (HO5.out.below (w' := w5.alloc (.cells #[.int .i64 (x : Nat)] 3)) ((Below.refl _ _).alloc (Nat.le_refl _) _))
      have BA := Lib.hid (B5.out.alloc B5.out.size (.cells #[.int .i64 (x : Nat)] 3))
      clear hx6
      go_wp2_with (refine wpList_append_ints (o := ⟨some 24, _, _, _, _, _⟩) rfl (.tmp 21) (.tmp 23) rfl w.heap.size BA.out.size _ _ (endsTo ls k) [x] rfl HOA.out rfl HX6.out (by rw [hel]; simp; omega) ?_; intro v7 w7 h7 hs7 hb7; have HO7 := Lib.hid h7; have B7 := Lib.hid (hb7 _ _ BA.out (Nat.le_refl _)); clear h7 hs7 hb7)
      go_roundw
      case rel => exact ⟨k + 1, x, by omega, by go_num, rfl, HX, _, rfl, by rw [HES.out]; exact HO7, B7⟩
      case measure => simp [intOf]; omega
    · obtain rfl : k = ls.length := by omega
      go_wp2_with fail
      go_ret
      exact ⟨_, rfl, HO.out.isInts, HB.out⟩
end Go.Proofs.YtdmoolfalcdbjaaDoor

namespace Go.Proofs.YtdmoolfalcdbjaaDoor
set_option linter.unusedVariables false
set_option linter.unusedSimpArgs false
open Go.RowKit Sha Chain

theorem all_takes {ls : List (List UInt8)} (h : ls.all fits = true) (j : Nat) : (ls.take j).all fits = true := by
  rw [List.all_eq_true] at h ⊢
  exact fun x hx => h x (List.mem_of_mem_take hx)
theorem all_of_chk {ls : List (List UInt8)} (h : chk ls = 0) : ls.all fits = true := by
  unfold chk at h
  split at h
  · assumption
  · cases h
theorem framesR_take {ls : List (List UInt8)} (h : ls.all fits = true) (j : Nat) : framesR (ls.take j) = (framesL zlink (ls.take j), headL zlink (ls.take j), 0) := by
  unfold framesR chk
  rw [if_pos]
  rw [if_pos (all_takes h j)]

/-- frames that are cut: the whole ones are scanned. -/
theorem torn_scan (ls : List (List UInt8)) (hall : ls.all fits = true) (k j : Nat) (hj : j ≤ ls.length) (h1 : (framesL zlink (ls.take j)).length ≤ k) (h2 : j < ls.length → k < (framesL zlink (ls.take (j + 1))).length) (hk : k ≤ (framesL zlink ls).length) :
    scanR ((framesL zlink ls).take k) = (ls.take j, headL zlink (ls.take j), (framesL zlink (ls.take j)).length) := by
  by_cases hlt : j < ls.length
  · have h3 := h2 hlt
    rw [framesL_next ls zlink j hlt, List.length_append] at h3
    have hS : framesL zlink ls = framesL zlink (ls.take j) ++ (frameL (headL zlink (ls.take j)) ls[j] ++ framesL (headL zlink (ls.take (j + 1))) (ls.drop (j + 1))) := by
      conv => lhs; rw [← List.take_append_drop (j + 1) ls, framesL_append, framesL_next ls zlink j hlt]
      rw [List.append_assoc]
    have hT : (framesL zlink ls).take k = framesL zlink (ls.take j) ++ (frameL (headL zlink (ls.take j)) ls[j]).take (k - (framesL zlink (ls.take j)).length) := by
      conv => lhs; rw [hS]
      rw [List.take_append, List.take_of_length_le h1, List.take_append_of_le_length (by omega)]
    rw [hT]
    exact scan_tail (ls.take j) (all_takes hall j) _ (good_torn _ _ _ (all_take hall hlt) _ (by omega))
  · obtain rfl : j = ls.length := by omega
    rw [List.take_length] at h1 ⊢
    obtain rfl : k = (framesL zlink ls).length := by omega
    rw [List.take_length]
    exact scan_whole ls hall
theorem audit_whole (ls : List (List UInt8)) (hall : ls.all fits = true) : auditR (framesL zlink ls) (headL zlink ls) = true := by
  unfold auditR
  rw [scan_whole ls hall]
  simp
theorem audit_torn {s : List UInt8} {k p : Nat} {a : List (List UInt8)} {m : List UInt8} (h : scanR (s.take k) = (a, m, p)) (hk : k ≤ s.length) : auditR (s.take k) m = (p == k) := by
  unfold auditR
  rw [h, List.length_take, Nat.min_eq_left hk]
  simp
theorem IsStrs.front {w : World} {b off n cap : Nat} {ls : List (List UInt8)} (h : IsStrs w (.slice (some ⟨b, off, none⟩) n cap) ls) (j : Nat) (hj : j ≤ ls.length) : IsStrs w (.slice (some ⟨b, off, none⟩) j cap) (ls.take j) := by
  rcases h with ⟨rfl, a, c, h1, h2⟩ | ⟨b', off', c, h1, h2, h3, h4, h5, h6⟩
  · injection h1 with e1 e2 e3
    subst e3
    simp only [List.length_nil, Nat.le_zero] at hj
    subst hj
    exact .inl ⟨rfl, _, _, rfl, h2⟩
  · injection h1 with e1 e2 e3
    injection e1 with e1
    injection e1 with f1 f2 f3
    subst f1 f2 e3
    by_cases h0 : j = 0
    · subst h0
      exact .inl ⟨List.take_zero, _, _, rfl, h4⟩
    · have hl : (ls.take j).length = j := by rw [List.length_take]; omega
      refine .inr ⟨b, off, cap, by rw [hl], by omega, by omega, h4, h5, fun i hi => ?_⟩
      rw [h6 i (by omega), List.getElem_take]
theorem mod_facts (c n : Nat) (hc : c < 65536) (hn : n < 1000000000) : (c : Int).tmod ((n : Int) + 1) = ((c % (n + 1) : Nat) : Int) := by
  rw [show ((n : Int) + 1) = ((n + 1 : Nat) : Int) by omega, ← Int.ofNat_tmod]
end Go.Proofs.YtdmoolfalcdbjaaDoor

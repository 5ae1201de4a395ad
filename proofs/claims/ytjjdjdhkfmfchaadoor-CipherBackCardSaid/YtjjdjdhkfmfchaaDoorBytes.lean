/- Slices of bytes that a call makes itself: make, append, string(..). -/
import Derived.Test.YtjjdjdhkfmfchaaDoorShaW4
import Derived.Test.YtjjdjdhkfmfchaaDoorMark
import Derived.Laws.MakeOwn
import Derived.Laws.BytesArg
import Derived.OwnWalk
namespace Go.Proofs.YtjjdjdhkfmfchaaDoor
set_option linter.unusedVariables false
set_option linter.unusedSimpArgs false
open Go.RowKit Sha

/-- the call owns a row of these bytes. -/
def OwnB (w : World) (base : Nat) (v : Value) (l : List UInt8) : Prop := OwnM w base 5 v l.length (bcells l)

theorem strOf_by8 (l : List UInt8) : strOfNums (l.map by8) = ⟨l.toArray⟩ := by
  unfold strOfNums
  have : (fun n : Int => UInt8.ofNat n.toNat) ∘ by8 = id := by
    funext c
    simp [by8]
  rw [List.map_map, this, List.map_id]

theorem conv_bytes {W : World} {b off n cap : Nat} {l : List UInt8} (hn : l.length = n) (h : ∀ i (h : i < l.length), W.cell? ⟨b, off + i, none⟩ = some (.int .u8 (by8 l[i]))) :
    (convert 31 9 (.slice (some ⟨b, off, none⟩) n cap)).run Tryd.prog W = .ok (.string ⟨l.toArray⟩) W := by
  have := run_convert_bytes_arg (P := Tryd.prog) W 31 5 Tryd.underlying31 Tryd.underlying5 b off n cap (l.map by8) (by simpa using hn)
    (fun i hi => by
      rw [h i (by omega), List.getD_eq_getElem?_getD, List.getElem?_map, List.getElem?_eq_getElem (show i < l.length by omega)]
      rfl) 9 Tryd.underlying9
  rw [strOf_by8] at this
  exact this

theorem OwnB.conv {w : World} {base : Nat} {v : Value} {l : List UInt8} (h : OwnB w base v l) :
    (convert 31 9 v).run Tryd.prog w = .ok (.string ⟨l.toArray⟩) w := by
  rcases h.2 with ⟨rfl, h0⟩ | ⟨g, cap, cur, fz, rfl, hb, hg, hz, hn, hm, hs, ht⟩
  · obtain rfl : l = [] := List.eq_nil_of_length_eq_zero h0
    exact run_convert_bytes_nil (P := Tryd.prog) w 31 5 Tryd.underlying31 Tryd.underlying5 0 0 9 Tryd.underlying9
  · refine conv_bytes rfl (fun i hi => ?_)
    have := OwnM.cells h (g := g) rfl i (.int .u8 (by8 l[i])) (by simp [bcells, List.getElem?_eq_getElem hi])
    rw [Nat.zero_add]
    exact this

theorem wpList_make_bytes {w : World} {ops : Array Oper} {rest : List Oper} {o : Oper} {a : Act} {Q : Exit → Act → World → Prop} (hgd : o.guard = none) (x y : Operand) (ho : o.op = .makeSlice 31 x y) (base c : Nat) (hx : a.eval x = .int .i64 0) (hy : a.eval y = .int .i64 (c : Int)) (hc : c ≤ 1099511627776) (hbase : base ≤ w.heap.size)
    (h : ∀ w', OwnB w' base (.slice (some ⟨w.heap.size, 0, none⟩) 0 c) [] → Below w.heap.size w w' → wpList Tryd.prog ops Q rest (a.put o.dst (.slice (some ⟨w.heap.size, 0, none⟩) 0 c)) w') : wpList Tryd.prog ops Q (o :: rest) a w := by
  obtain ⟨i0, hi, hz0, hz1, hz2⟩ := info_parts info_u8
  obtain ⟨w', hr, hown, hg⟩ := run_make_own (P := Tryd.prog) w base 31 5 i0 _ 1 Tryd.underlying31 hi hz0 hz1 .i64 .i64 c (by rw [hz2]; omega) (by unfold maxLen; omega) hbase
  refine wpList_val hgd (w' := w') ?_ (h w' (OwnM.of hown) ((Below.refl _ _).grown hg (Nat.le_refl _) (fun k hk => by cases hk)))
  unfold execOp
  simp only [ho, hx, hy, Sem.run_bind, hr, Result.andThen_ok, Sem.run_pure]

theorem wpList_append_bytes {w : World} {ops : Array Oper} {rest : List Oper} {o : Oper} {a : Act} {Q : Exit → Act → World → Prop} (hgd : o.guard = none) (s x : Operand)
    (ho : o.op = .call { callee := .builtin .append, args := #[s, x], argTypes := #[31, 31] }) (base : Nat) (v : Value) (l : List UInt8) (hs : a.eval s = v) (hown : OwnB w base v l)
    (g c m : Nat) (x' : List UInt8) (hx : a.eval x = .slice (some ⟨g, 0, none⟩) m c) (hm : x'.length = m) (hc : ∀ i (h : i < x'.length), w.cell? ⟨g, i, none⟩ = some (.int .u8 (by8 x'[i]))) (hsz : l.length + m ≤ 1099511627776) (hbase : base ≤ w.heap.size)
    (h : ∀ v' w', OwnB w' base v' (l ++ x') → w.heap.size ≤ w'.heap.size → (∀ B w0, Below B w0 w → B ≤ base → Below B w0 w') → wpList Tryd.prog ops Q rest (a.put o.dst v') w') : wpList Tryd.prog ops Q (o :: rest) a w := by
  subst hm
  obtain ⟨i0, hi, hz0, hz1, hz2⟩ := info_parts info_u8
  obtain ⟨v', w', hr, h2, h3⟩ := run_append_ownM (P := Tryd.prog) w base 31 o.type 5 i0 (.int .u8 0) 1 Tryd.underlying31 hi hz0 hz1 hz2 rfl v l.length (bcells l) hown
    ⟨g, 0, none⟩ x'.length c (bcells x') (bcells_length _) (fun j u hj => by
      have hadd : (⟨g, 0, none⟩ : Addr).add j = ⟨g, j, none⟩ := by unfold Addr.add; split <;> simp_all
      rw [hadd]
      by_cases hjl : j < x'.length
      · have : u = .int .u8 (by8 x'[j]) := by
          simp [bcells, List.getElem?_eq_getElem hjl] at hj
          exact hj.symm
        rw [this]; exact hc j hjl
      · simp [bcells, List.getElem?_eq_none (Nat.le_of_not_lt hjl)] at hj) (bcells_one _) (by unfold maxLen; omega) (by omega) hbase
  refine wpList_val hgd (w' := w') ?_ (h v' w' ?_ h3.size (fun B w0 hb hB => hb.grown h3 (Nat.le_trans hB hbase) (fun k hk => Nat.le_trans hB (OwnM.lt hown k hk).1)))
  · unfold execOp
    simp only [ho, resolve, invoke, builtin, Sem.run_bind, Sem.run_pure, Result.andThen_ok, List.map_toArray, List.map_cons, List.map_nil, hs, hx, hr]
  · unfold OwnB
    rw [List.length_append]
    have : bcells (l ++ x') = bcells l ++ bcells x' := by simp [bcells]
    rw [this]
    exact h2

theorem OwnB.kept {w w' : World} {base : Nat} {v : Value} {l : List UInt8} (h : OwnB w base v l) (hb : Below w.heap.size w w') : OwnB w' base v l :=
  OwnM.kept h (w' := w') (row := none) ⟨hb.os, hb.tape, hb.output, hb.size, fun k hk _ => hb.block k hk⟩ (by cases hv : v.ownBlock <;> simp)

/-- a text as bytes: a new row. -/
theorem wpList_bytes_own {w : World} {ops : Array Oper} {rest : List Oper} {o : Oper} {a : Act} {Q : Exit → Act → World → Prop} (hgd : o.guard = none) (x : Operand) (ho : o.op = .convert 9 31 x) (l : List UInt8)
    (hx : a.eval x = .string ⟨l.toArray⟩) (base : Nat) (hbase : base ≤ w.heap.size) (hl : l.length ≤ 1099511627776)
    (h : ∀ v' w', OwnB w' base v' l → (∀ B w0, Below B w0 w → B ≤ base → Below B w0 w') → wpList Tryd.prog ops Q rest (a.put o.dst v') w') : wpList Tryd.prog ops Q (o :: rest) a w := by
  obtain ⟨v', w', hr, h2, h3⟩ := run_bytes_own (P := Tryd.prog) w base 9 31 5 ⟨l.toArray⟩ Tryd.underlying9 Tryd.underlying31 Tryd.underlying5 (by have e : (ByteArray.mk l.toArray).size = l.length := (by simp [ByteArray.size]); unfold maxLen; omega) hbase
  refine wpList_val hgd (w' := w') ?_ (h v' w' h2 (fun B w0 hb hB => hb.grown h3 (Nat.le_trans hB hbase) (fun k hk => by cases hk)))
  unfold execOp
  simp only [ho, hx, Sem.run_bind, hr, Result.andThen_ok, Sem.run_pure]

/-- append(s, x..) of a literal's row that was just laid. -/
theorem own_nil (w : World) (base : Nat) : OwnB w base (.slice none 0 0) [] := ⟨rfl, .inl ⟨rfl, rfl⟩⟩
end Go.Proofs.YtjjdjdhkfmfchaaDoor
